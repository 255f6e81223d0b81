/- Texts of this claim. -/
import Derived.Test.YtjcdfjldcinopaaGreatDoorLP
import Derived.Laws.Bits64
import Derived.Lib.EndianBits
import Derived.Lib.Varint
import Derived.Lib.BitFns
import Derived.Test.YtjcdfjldcinopaaGreatDoorYB
open BitVec renaming ofInt->iq
open Bool renaming and_eq_true->ν,noConfusion->ct,not_false->fy,not_true->c8,or_eq_false_iff->im,or_eq_true->fa
open Go.IntKind renaming bits->dx,wrap->δ
open Int renaming ofNat_tmod->fm,tmod->bo,toNat_natCast->π
open List renaming append_assoc->υ,append_nil->χ,drop_append_of_le_length->ee,drop_drop->dh,drop_eq_nil_of_le->eg,drop_zero->cc,getD_eq_getElem?_getD->ba,getElem?_eq_getElem->ε,getElem_mem->da,length_append->κ,length_cons->ξ,length_drop->aq,length_map->μ,length_nil->au,length_replicate->jb,length_take->bu,map_append->bn,mem_append->dn,mem_cons->bw,mem_singleton->bk,nil_append->cg,not_mem_nil->dm,replicate->bg,replicate_succ->iv,replicate_zero->iu,take_add_one->jx,take_append_drop->gf,take_append_of_le_length->e9,take_of_length_le->bc,take_succ_eq_append_getElem->ij
open Nat renaming eq_zero_or_pos->gk,le_refl->ω,lt_or_ge->c6,lt_trichotomy->ft,pow_le_pow_right->fv,pow_succ->iy,sub_zero->gu,zero_le->di
set_option linter.all false
set_option maxRecDepth 8000
set_option synthInstance.maxSize 100000
set_option synthInstance.maxHeartbeats 400000
namespace Go.Proofs.Tryz
open Go.Eng Go.RowKit Go.Lib
variable{N n i:Nat}{β α:Type}{l p r:List Int}{x:Int}
theorem eK(k:IntKind)(x y:Int):bits .or k x y=bits .or k y x:=by show k.wrap ((iq k.bits x|||iq k.bits y).toNat:Int)=k.wrap ((iq k.bits y|||iq k.bits x).toNat:Int);rw[BitVec.or_comm]
theorem aJw(k:IntKind)(x y:Int):bits .xor k x y=bits .xor k y x:=by show k.wrap ((iq k.bits x^^^iq k.bits y).toNat:Int)=k.wrap ((iq k.bits y^^^iq k.bits x).toNat:Int);rw[BitVec.xor_comm]
theorem set_set{n:Nat}(x:Arr n)(i:Nat)(a b:Int):(x.set i a).set i b=x.set i b:=Arr.ext (by rw[Arr.l_set,Arr.l_set,Arr.l_set,List.set_set])
theorem aHw(x:Arr n)(i:Nat)(a:Int)(h:i<n):(x.set i a).l.getD i 0=a:=by rw[Arr.l_set,ba,List.getElem?_set_self (by rw[x.len];exact h)];rfl
theorem aQc(x:Arr n)(i j:Nat)(a:Int)(h:i≠j):(x.set i a).l.getD j 0=x.l.getD j 0:=by rw[Arr.l_set,ba,List.getElem?_set_ne h,ba]
theorem uP(x:Arr n){j:Int}{f:Int->Option β}(h0:0<=j)(h:j<n):gd? (0<=j) (gd? (j<((n:Nat):Int)) (gn? x.l j.toNat f))=f (x.l.getD j.toNat 0):=by
 have h':j.toNat<x.l.length:=by rw[x.len];omega
 rw[aC h0,aC h,aPm (ε h'),ba,ε h'];rfl
def Byt(l:List Int):Prop:=∀x∈l,0<=x/\x<256
def ror(x n:Int):Int:=bits .or .u32 (x/2^n.toNat) (δ .u32 (x*2^(32-n).toNat))
theorem oO(N:Nat)(x n:Int)(h0:0<=n)(h1:n<=32):aR N x n=some (ror x n):=by have e:(dx .u32:Int)=32:=rfl;unfold aR ror;rw[aC h0,aC (by omega),aM (by omega) (by omega),aC (by omega),aC (by omega)]
theorem oQ(N:Nat)(x n:Int)(h:bits .and .u64 (δ .u64 (-n)) 31=32-n)(h0:0<=n)(h1:n<=32)(hw:δ .u64 (32-(32-n))=n):aL N x (-n)=some (ror x n):=by have e:(dx .u32:Int)=32:=rfl;unfold aL ror;rw[h,hw,aC (by omega),aC (by omega),aC h0,aC (by omega),eK]
theorem bNz(N:Nat)(x:Int):aL N x (-6)=some (ror x 6):=oQ N x 6 (by decide+kernel) (by decide) (by decide) (by decide+kernel)
theorem bNb(N:Nat)(x:Int):aL N x (-11)=some (ror x 11):=oQ N x 11 (by decide+kernel) (by decide) (by decide) (by decide+kernel)
theorem bMx(N:Nat)(x:Int):aL N x (-25)=some (ror x 25):=oQ N x 25 (by decide+kernel) (by decide) (by decide) (by decide+kernel)
theorem bOc(N:Nat)(x:Int):aL N x (-2)=some (ror x 2):=oQ N x 2 (by decide+kernel) (by decide) (by decide) (by decide+kernel)
theorem bKw(N:Nat)(x:Int):aL N x (-13)=some (ror x 13):=oQ N x 13 (by decide+kernel) (by decide) (by decide) (by decide+kernel)
theorem bK9(N:Nat)(x:Int):aL N x (-22)=some (ror x 22):=oQ N x 22 (by decide+kernel) (by decide) (by decide) (by decide+kernel)
theorem bN0(N:Nat)(x:Int):aL N x (-7)=some (ror x 7):=oQ N x 7 (by decide+kernel) (by decide) (by decide) (by decide+kernel)
theorem bNj(N:Nat)(x:Int):aL N x (-18)=some (ror x 18):=oQ N x 18 (by decide+kernel) (by decide) (by decide) (by decide+kernel)
theorem bLr(N:Nat)(x:Int):aL N x (-17)=some (ror x 17):=oQ N x 17 (by decide+kernel) (by decide) (by decide) (by decide+kernel)
theorem bL0(N:Nat)(x:Int):aL N x (-19)=some (ror x 19):=oQ N x 19 (by decide+kernel) (by decide) (by decide) (by decide+kernel)
theorem bOd(N:Nat)(x:Int):aR N x 6=some (ror x 6):=oO N x 6 (by decide) (by decide)
theorem bNg(N:Nat)(x:Int):aR N x 11=some (ror x 11):=oO N x 11 (by decide) (by decide)
theorem bMr(N:Nat)(x:Int):aR N x 25=some (ror x 25):=oO N x 25 (by decide) (by decide)
theorem bOh(N:Nat)(x:Int):aR N x 2=some (ror x 2):=oO N x 2 (by decide) (by decide)
theorem bKk(N:Nat)(x:Int):aR N x 13=some (ror x 13):=oO N x 13 (by decide) (by decide)
theorem bM5(N:Nat)(x:Int):aR N x 22=some (ror x 22):=oO N x 22 (by decide) (by decide)
theorem bN7(N:Nat)(x:Int):aR N x 7=some (ror x 7):=oO N x 7 (by decide) (by decide)
theorem bMq(N:Nat)(x:Int):aR N x 18=some (ror x 18):=oO N x 18 (by decide) (by decide)
theorem bMm(N:Nat)(x:Int):aR N x 17=some (ror x 17):=oO N x 17 (by decide) (by decide)
theorem bNm(N:Nat)(x:Int):aR N x 19=some (ror x 19):=oO N x 19 (by decide) (by decide)
theorem bNr(N:Nat)(x:Int):lI N x 6 11 25=some (bits .xor .u32 (bits .xor .u32 (ror x 6) (ror x 11)) (ror x 25)):=by unfold lI;rw[bNz,bNb,bMx];rfl
theorem bL4(N:Nat)(x:Int):lI N x 2 13 22=some (bits .xor .u32 (bits .xor .u32 (ror x 2) (ror x 13)) (ror x 22)):=by unfold lI;rw[bOc,bKw,bK9];rfl
theorem aX0(N m:Nat):eW N (m+1)=eJ N (eW N m):=rfl
theorem bLd(N m:Nat):kS N (m+1)=kP N (kS N m):=rfl
theorem aRl(N:Nat)(p:List Int)(a2:Arr 64):∀(k t m m':Nat) (w:Arr 64),t+k=64->16<=t->k<m->k<m'->∃r,eW N m p (t:Int) a2 w=some r/\kS N m' (t:Int) a2 w=some r
 |k,t,0,m',w,_,_,h,_=>by omega
 |k,t,m+1,0,w,_,_,_,h=>by omega
 |0,t,m+1,m'+1,w,h,h1,_,_=>by
  rw[aX0,bLd];unfold eJ kP;rw[aE (decide_eq_false (by omega)),aE (decide_eq_false (by omega))];exact⟨_,rfl,rfl⟩
 |k+1,t,m+1,m'+1,w,h,h1,hm,hm'=>by
  rw[aX0,bLd];unfold eJ kP;rw[aF (decide_eq_true (by omega)),aE (decide_eq_false (by omega)),aF (decide_eq_true (by omega))];have n1:((t:Int)+1)=((t+1:Nat):Int):=by omega
  have g1:∀{n:Nat} {α:Type} {a:Option α},64=n->gd? ((t:Int)<((n:Nat):Int)) a=a:=fun e=>aC (by omega);have g2:∀{α:Type} {a:Option α},gd? (0<=(t:Int)) a=a:=aC (by omega);have g3:∀{α:Type} {a:Option α},gd? ((t:Int).toNat<64) a=a:=aC (by omega);rw[aM (by omega) (by omega),uP w (by omega) (by omega),aM (by omega) (by omega),uP w (by omega) (by omega),bN0,aB,bNj,aB,bLr,aB,bL0,aB,aM (by omega) (by omega),uP w (by omega) (by omega),aM (by omega) (by omega),uP w (by omega) (by omega),g2,g1 rfl,g3,aB];dsimp only;rw[aM (n:=(t:Int)+1) (by omega) (by omega),aM (n:=(t:Int)-15) (by omega) (by omega),uP w (by omega) (by omega),bN7,aB,aM (by omega) (by omega),uP w (by omega) (by omega),bMq,aB,aM (by omega) (by omega),uP w (by omega) (by omega),aM (by omega) (by omega),uP w (by omega) (by omega),bMm,aB,aM (by omega) (by omega),uP w (by omega) (by omega),bNm,aB,aM (by omega) (by omega),uP w (by omega) (by omega),aM (by omega) (by omega),uP w (by omega) (by omega),aM (by omega) (by omega),uP w (by omega) (by omega),g2,g1 rfl,g3,aM (n:=(t:Int)+1) (by omega) (by omega),n1];exact aRl N p a2 k (t+1) m m' _ (by omega) (by omega) (by omega) (by omega)
set_option maxRecDepth 8000
set_option synthInstance.maxSize 100000
set_option synthInstance.maxHeartbeats 400000
theorem bCv{a b c d:Int}(ha:0<=a/\a<256)(hb:0<=b/\b<256)(hc:0<=c/\c<256)(hd:0<=d/\d<256):
  bits .or .u32 (δ .u32 (bits .or .u32 (δ .u32 (bits .or .u32 (δ .u32 (bits .or .u32 (δ .u32 (0*2^8)) (δ .u32 a)*2^8)) (δ .u32 b)*2^8)) (δ .u32 c)*2^8)) (δ .u32 d)
  =bits .or .u32 (bits .or .u32 (bits .or .u32 (δ .u32 (δ .u32 a*2^24)) (δ .u32 (δ .u32 b*2^16))) (δ .u32 (δ .u32 c*2^8))) (δ .u32 d):=by
 have e8:(2:Int)^8=256:=rfl;have e16:(2:Int)^16=65536:=rfl;have e24:(2:Int)^24=16777216:=rfl;have w:∀x:Int,0<=x->x<4294967296->δ .u32 x=x:=fun x h h'=>Go.u32_wrap_id x h h';rw[e8,e16,e24,w a (by omega) (by omega),w b (by omega) (by omega),w c (by omega) (by omega),w d (by omega) (by omega),w (0*256) (by omega) (by omega),w (a*16777216) (by omega) (by omega),w (b*65536) (by omega) (by omega),w (c*256) (by omega) (by omega)];have j1:bits .or .u32 (0*256) a=a:=by rw[eK,Go.u32_or8 _ _ (by omega) (by omega) (by omega) (by omega) (by omega)];omega
 rw[j1,w (a*256) (by omega) (by omega)];have j2:bits .or .u32 (a*256) b=a*256+b:=by rw[eK,Go.u32_or8 _ _ (by omega) (by omega) (by omega) (by omega) (by omega)];omega
 rw[j2,w ((a*256+b)*256) (by omega) (by omega)];have j3:bits .or .u32 ((a*256+b)*256) c=(a*256+b)*256+c:=by rw[eK,Go.u32_or8 _ _ (by omega) (by omega) (by omega) (by omega) (by omega)];omega
 rw[j3,w (((a*256+b)*256+c)*256) (by omega) (by omega)];have j4:bits .or .u32 (((a*256+b)*256+c)*256) d=((a*256+b)*256+c)*256+d:=by rw[eK,Go.u32_or8 _ _ (by omega) (by omega) (by omega) (by omega) (by omega)];omega
 have i1:bits .or .u32 (a*16777216) (b*65536)=a*16777216+b*65536:=by rw[eK,Go.u32_or24 _ _ (by omega) (by omega) (by omega) (by omega) (by omega)];omega
 have i2:bits .or .u32 (a*16777216+b*65536) (c*256)=a*16777216+b*65536+c*256:=by rw[eK,Go.u32_or16 _ _ (by omega) (by omega) (by omega) (by omega) (by omega)];omega
 have i3:bits .or .u32 (a*16777216+b*65536+c*256) d=a*16777216+b*65536+c*256+d:=by rw[eK,Go.u32_or8 _ _ (by omega) (by omega) (by omega) (by omega) (by omega)];omega
 rw[j4,i1,i2,i3];omega
theorem bOs(h:i+4<=p.length):∃a b c d r,p.drop i=a::b::c::d::r:=by
 match hp:p.drop i with
 |[]=>have:=congrArg List.length hp;simp at this;omega
 |[_]=>have:=congrArg List.length hp;simp at this;omega
 |[_,_]=>have:=congrArg List.length hp;simp at this;omega
 |[_,_,_]=>have:=congrArg List.length hp;simp at this;omega
 |a::b::c::d::r=>exact⟨a,b,c,d,r,rfl⟩
theorem aNh(h:p.drop i=x::r):p[i]?=some x:=by
 have:(p.drop i)[0]?=some x:=by rw[h];rfl
 rwa[List.getElem?_drop,Nat.add_zero]at this
theorem aOd(h:p.drop i=x::r):p.drop (i+1)=r:=by rw[<-dh,h];rfl
theorem bF1(m:Nat):cJ (m+1)=iS (cJ m):=rfl
theorem bMy(N m:Nat):lB N (m+1)=lH N (lB N m):=rfl
theorem aOl(p l:List Int)(t j m n:Nat)(x:Int)(a2 w:Arr 64)(ht:t<64)(hn:l.length=n)(hx:l[j]?=some x)(hj:j<100):
  cJ (m+1) p (t:Int) (t:Int) l (n:Int) (j:Int) a2 w=cJ m p (t:Int) (t:Int) l (n:Int) ((j+1:Nat):Int) a2 (w.set t (bits .or .u32 (δ .u32 (w.l.getD t 0*2^8)) (δ .u32 x))):=by have hlt:j<l.length:=(List.getElem?_eq_some_iff.1 hx).1;rw[bF1];unfold iS;rw[aF (decide_eq_true (by omega)),bJ hx,uP w (by omega) (by omega),aC (by omega),aC (by omega),aC (by omega),aM (by omega) (by omega),π,show((j:Int)+1)=((j+1:Nat):Int) by omega]
theorem aY2(p:List Int)(t m:Nat)(a2 w:Arr 64)(a b c d:Int)(ht:t<16)(h0:w.l.getD t 0=0):
  cJ (m+5) p (t:Int) (t:Int) [a,b,c,d] ((4:Nat):Int) 0 a2 w=some (p,(t:Int),a2,w.set t (bits .or .u32 (δ .u32 (bits .or .u32 (δ .u32 (bits .or .u32 (δ .u32 (bits .or .u32 (δ .u32 (0*2^8)) (δ .u32 a)*2^8)) (δ .u32 b)*2^8)) (δ .u32 c)*2^8)) (δ .u32 d))):=by
 have t64:t<64:=by omega
 refine(aOl p [a,b,c,d] t 0 (m+4) 4 a a2 w t64 rfl rfl (by omega)).trans ?_;rw[aOl p [a,b,c,d] t 1 (m+3) 4 b a2 _ t64 rfl rfl (by omega),aOl p [a,b,c,d] t 2 (m+2) 4 c a2 _ t64 rfl rfl (by omega),aOl p [a,b,c,d] t 3 (m+1) 4 d a2 _ t64 rfl rfl (by omega),bF1];unfold iS;rw[aE (decide_eq_false (by omega)),aHw _ _ _ t64,aHw _ _ _ t64,aHw _ _ _ t64,set_set,set_set,set_set,h0]
theorem aPq(N:Nat)(p:List Int)(hp:p.length=64)(hB:Byt p)(hN:70<=N)(a2:Arr 64):∀(k t m m':Nat) (w:Arr 64),t+k=16->64<=m+t->k<m'->64<m+t->(∀j,t<=j->w.l.getD j 0=0)->∃r,eW N m p (t:Int) a2 w=some r/\lB N m' p (t:Int) a2 w=some r
 |k,t,0,m',w,_,_,_,h,_=>by omega
 |k,t,m+1,0,w,_,_,h,_,_=>by omega
 |0,t,m+1,m'+1,w,h,_,_,h2,_=>by
  obtain rfl:t=16:=by omega
  rw[bMy];unfold lH;rw[aE (decide_eq_false (by omega))];exact aRl N p a2 48 16 (m+1) N w (by omega) (by omega) (by omega) (by omega)
 |k+1,t,m+1,m'+1,w,h,h3,hm',h2,hz=>by
  obtain⟨a,b,c,d,r,hr⟩:=bOs (p:=p) (i:=4*t) (by omega);have m1:∀x,x∈p.drop (4*t)->0<=x/\x<256:=fun x hx=>hB x (List.mem_of_mem_drop hx);rw[hr]at m1;have ha:=m1 a (by simp);have hb:=m1 b (by simp);have hc:=m1 c (by simp);have hd:=m1 d (by simp);have hr1:=aOd hr;have hr2:=aOd hr1;have hr3:=aOd hr2;obtain⟨n,rfl⟩:∃n,N=n+5:=⟨N-5,by omega⟩;have hq:(p.drop (4*(t:Int)).toNat).take (((4*(t:Int))+4).toNat-(4*(t:Int)).toNat)=[a,b,c,d]:=by rw[show(4*(t:Int)).toNat=4*t by omega,show((4*(t:Int))+4).toNat-4*t=4 by omega,hr];rfl
  have hw:=aY2 p t n a2 w a b c d (by omega) (hz t (ω _));rw[aX0,bMy];unfold eJ lH;rw[aF (decide_eq_true (by omega)),aF (decide_eq_true (by omega)),aF (decide_eq_true (by omega)),hq,aM (n:=4*(t:Int)) (by omega) (by omega),aM (n:=4*(t:Int)) (by omega) (by omega),aM (by omega) (by omega),aC (by omega),aC (by omega),aC (by omega),aC (by omega)];show∃r,(bd? (cJ (n+5) p (t:Int) (t:Int) [a,b,c,d] ((4:Nat):Int) 0 a2 w) _)=some r/\_;rw[hw,aB];dsimp only;rw[aM (n:=(t:Int)+1) (by omega) (by omega),aM (n:=4*(t:Int)) (by omega) (by omega),show 4*(t:Int)=((4*t:Nat):Int) by omega,bJ (aNh hr),aM (by omega) (by omega),aM (by omega) (by omega),show((4*t:Nat):Int)+1=((4*t+1:Nat):Int) by omega,bJ (aNh hr1),aM (by omega) (by omega),aM (by omega) (by omega),show((4*t:Nat):Int)+2=((4*t+2:Nat):Int) by omega,bJ (aNh hr2),aM (by omega) (by omega),aM (by omega) (by omega),show((4*t:Nat):Int)+3=((4*t+3:Nat):Int) by omega,bJ (aNh hr3),aC (by omega),aC (by omega),aC (by omega),aM (by omega) (by omega),π,show((t:Int)+1)=((t+1:Nat):Int) by omega,bCv ha hb hc hd];exact aPq (n+5) p hp hB hN a2 k (t+1) m m' _ (by omega) (by omega) (by omega) (by omega) fun j hj=>by rw[aQc _ _ _ _ (by omega)];exact hz j (by omega)
theorem bAw(j n:Nat):(bg n (0:Int)).getD j 0=0:=by rw[ba,List.getElem?_replicate];split<;>rfl
theorem aQi(p:List Int)(hp:p.length=64)(hB:Byt p)(hN:70<=N):∃r,kZ N p=some r/\hJ N p=some r:=by unfold kZ hJ;exact aPq N p hp hB hN _ 16 0 N N _ (by omega) (by omega) (by omega) (by omega) fun j _=>bAw j 64
def j8(a b:Arr 4):Arr 8:=⟨a.l++b.l,by rw[κ,a.len,b.len]⟩
theorem bCu(x:Arr 4):∃a b c d,x=⟨[a,b,c,d],rfl⟩:=by
 obtain⟨l,h⟩:=x
 match l,h with
 |[a,b,c,d],h=>exact⟨a,b,c,d,rfl⟩
theorem bEr(x:Arr 8):∃a b c d e f g h,x=⟨[a,b,c,d,e,f,g,h],rfl⟩:=by
 obtain⟨l,h⟩:=x
 match l,h with
 |[a,b,c,d,e,f,g,h],_=>exact⟨a,b,c,d,e,f,g,h,rfl⟩
theorem gn0{a:α}{l:List α}{f:α->Option β}:gn? (a::l) 0 f=f a:=rfl
theorem gn1{a b:α}{l:List α}{f:α->Option β}:gn? (a::b::l) 1 f=f b:=rfl
theorem gn2{a b c:α}{l:List α}{f:α->Option β}:gn? (a::b::c::l) 2 f=f c:=rfl
theorem gn3{a b c d:α}{l:List α}{f:α->Option β}:gn? (a::b::c::d::l) 3 f=f d:=rfl
theorem gn4{a b c d e:α}{l:List α}{f:α->Option β}:gn? (a::b::c::d::e::l) 4 f=f e:=rfl
theorem gn5{a b c d e g:α}{l:List α}{f:α->Option β}:gn? (a::b::c::d::e::g::l) 5 f=f g:=rfl
theorem gn6{a b c d e g h:α}{l:List α}{f:α->Option β}:gn? (a::b::c::d::e::g::h::l) 6 f=f h:=rfl
theorem gn7{a b c d e g h i:α}{l:List α}{f:α->Option β}:gn? (a::b::c::d::e::g::h::i::l) 7 f=f i:=rfl
theorem bOw{t:Nat}{f:Int->Option β}(h:t<64):aZ gl1 (t:Int) f=f (gl1.getD t 0):=by have hl:t<gl1.length:=h;rw[bJ (ε hl),ba,ε hl];rfl
theorem bOp{t:Nat}{f:Int->Option β}(h:t<64):gd? (0<=(t:Int)) (gd? ((t:Int)<((64:Nat):Int)) (gn? gl2 (t:Int).toNat f))=f (gl1.getD t 0):=by have hl:t<gl1.length:=h;rw[show gl2=gl1 from rfl,aC (by omega),aC (by omega),π,aPm (ε hl),ba,ε hl];rfl
theorem hM:(ite ((IntKind.signed IntKind.u32)=true) (-1) (IntKind.max IntKind.u32):Int)=4294967295:=by decide
theorem bG3(N m:Nat):dL N (m+1)=iJ N (dL N m):=rfl
theorem bMd(N:Nat)(r)(m:Nat):eZ N r (m+1)=oK N r (eZ N r m):=rfl
theorem bNf(r)(m:Nat):dV r (m+1)=oP r (dV r m):=rfl
theorem bBe(N:Nat)(pf)(z s:Arr 8)(w:Arr 64)(k0:Int->Arr 32->Arr 8->List Int->Option (Arr 32))(a2:Int)(c3:Arr 32)(c5:List Int):∀(k t m m':Nat) (x y:Arr 4),t+k=64->k<m->k<m'->
  ∃x' y',dL N m (Arr.mk gl1 pf) (t:Int) s z w x y=eO N 0 s z x' y'/\eZ N k0 m' a2 (t:Int) c3 s c5 w (j8 x y)=dV k0 N a2 0 c3 s c5 (j8 x' y')
 |k,t,0,m',x,y,_,h,_=>by omega
 |k,t,m+1,0,x,y,_,_,h=>by omega
 |0,t,m+1,m'+1,x,y,h,_,_=>by
  rw[bG3,bMd];unfold iJ oK;rw[aE (decide_eq_false (by omega)),aE (decide_eq_false (by omega)),aD];exact⟨x,y,rfl,rfl⟩
 |k+1,t,m+1,m'+1,x,y,h,hm,hm'=>by
  obtain⟨v0,v1,v2,v3,rfl⟩:=bCu x;obtain⟨e0,e1,e2,e3,rfl⟩:=bCu y;have hx:bits .xor .u32 e0 4294967295=bits .xor .u32 4294967295 e0:=aJw _ _ _;have hj:(j8 ⟨[v0,v1,v2,v3],rfl⟩ ⟨[e0,e1,e2,e3],rfl⟩).l=[v0,v1,v2,v3,e0,e1,e2,e3]:=rfl;have ht:t<64:=by omega
  have n1:((t:Int)+1)=((t+1:Nat):Int):=by omega
  rw[bG3,bMd];unfold iJ oK;rw[aF (decide_eq_true (by omega)),aF (decide_eq_true (by omega))];simp(disch:=omega)only[hj,gn0,gn1,gn2,gn3,gn4,gn5,gn6,gn7,bOw ht,bOp ht,uP w,bNr,bL4,bOd,bNg,bMr,bOh,bKk,bM5,aB,aM,aD,n1,hM,hx];exact bBe N pf z s w k0 a2 c3 c5 k (t+1) m m' _ _ (by omega) (by omega) (by omega)
def bHg(s:Arr 8)(v:Arr 8):Arr 8:=⟨List.zipWith (fun a b=>δ .u32 (a+b)) s.l v.l,by rw[List.length_zipWith,s.len,v.len];rfl⟩
theorem aZd(n:Nat)(x y:Arr 4)(s z:Arr 8):eO (n+5) 0 s z x y=some (bHg s (j8 x y)):=by obtain⟨v0,v1,v2,v3,rfl⟩:=bCu x;obtain⟨e0,e1,e2,e3,rfl⟩:=bCu y;obtain⟨a,b,c,d,e,f,g,h,rfl⟩:=bEr s;rfl
theorem aD6(k0:Int->Arr 32->Arr 8->List Int->Option (Arr 32))(m t:Nat)(a2:Int)(c3:Arr 32)(c5:List Int)(v s:Arr 8)(ht:t<8):
  dV k0 (m+1) a2 (t:Int) c3 s c5 v=dV k0 m a2 ((t+1:Nat):Int) c3 (s.set t (δ .u32 (s.l.getD t 0+v.l.getD t 0))) c5 v:=by rw[bNf];unfold oP;rw[aF (decide_eq_true (by omega)),uP s (by omega) (by omega),uP v (by omega) (by omega),aC (by omega),aC (by omega),aC (by omega),aM (by omega) (by omega),aD,π,show((t:Int)+1)=((t+1:Nat):Int) by omega]
theorem bM2(n:Nat)(k0:Int->Arr 32->Arr 8->List Int->Option (Arr 32))(a2:Int)(c3:Arr 32)(c5:List Int)(v s:Arr 8)(h0:0<=a2)(h1:a2<=1000000000):dV k0 (n+9) a2 0 c3 s c5 v=k0 (a2+64) c3 (bHg s v) c5:=by refine(aD6 k0 (n+8) 0 a2 c3 c5 v s (by omega)).trans ?_;rw[aD6 k0 (n+7) 1 a2 c3 c5 v _ (by omega),aD6 k0 (n+6) 2 a2 c3 c5 v _ (by omega),aD6 k0 (n+5) 3 a2 c3 c5 v _ (by omega),aD6 k0 (n+4) 4 a2 c3 c5 v _ (by omega),aD6 k0 (n+3) 5 a2 c3 c5 v _ (by omega),aD6 k0 (n+2) 6 a2 c3 c5 v _ (by omega),aD6 k0 (n+1) 7 a2 c3 c5 v _ (by omega),bNf];unfold oP;rw[aE (decide_eq_false (by omega)),aM (by omega) (by omega),aD];obtain⟨v0,v1,v2,v3,v4,v5,v6,v7,rfl⟩:=bEr v;obtain⟨a,b,c,d,e,f,g,h,rfl⟩:=bEr s;rfl
theorem aUl(N:Nat)(hN:70<=N)(s:Arr 8)(b:List Int)(hb:b.length=64)(hB:Byt b):∃r,dM N s b=some r/\∀k0 (a2:Int) a3 a5,0<=a2->a2<=1000000000->(bd? (hJ N b) fun v8=>eZ N k0 N a2 0 a3 s a5 v8 s)=k0 (a2+64) a3 r a5:=by
 obtain⟨w,h1,h2⟩:=aQi b hb hB hN;obtain⟨n,rfl⟩:∃n,N=n+9:=⟨N-9,by omega⟩;have hj:j8 (s.part 0 4) (s.part 4 4)=s:=by obtain⟨a,b,c,d,e,f,g,h,rfl⟩:=bEr s;rfl
 have hR:=fun k0 a2 a3 a5=>bBe (n+9) (XS.ev._proof_1 gl1) (Arr.zero 8) s w k0 a2 a3 a5 64 0 (n+9) (n+9) (s.part 0 4) (s.part 4 4) (by omega) (by omega) (by omega);obtain⟨x',y',hh,hh1⟩:=hR (fun _ _ _ _=>none) 0 (Arr.zero 32) [];have hh:dL (n+9) (n+9) (Arr.mk gl1 (XS.ev._proof_1 gl1)) 0 s (Arr.zero 8) w (s.part 0 4) (s.part 4 4)=eO (n+9) 0 s (Arr.zero 8) x' y':=hh;refine⟨bHg s (j8 x' y'),?_,?_⟩
 ·unfold dM;rw[h1,aB,aC rfl,aC rfl,aC rfl,hh];exact aZd (n+4) x' y' s _
 ·intro k0 a2 a3 a5 g0 g1;rw[h2,aB];obtain⟨x2,y2,g,gg⟩:=hR k0 a2 a3 a5;have g:dL (n+9) (n+9) (Arr.mk gl1 (XS.ev._proof_1 gl1)) 0 s (Arr.zero 8) w (s.part 0 4) (s.part 4 4)=eO (n+9) 0 s (Arr.zero 8) x2 y2:=g;rw[hj]at gg;have gg:eZ (n+9) k0 (n+9) a2 0 a3 s a5 w s=dV k0 (n+9) a2 0 a3 s a5 (j8 x2 y2):=gg;rw[gg,bM2 n k0 a2 a3 a5 _ _ g0 g1];have e:=hh.symm.trans g;rw[show(n+9)=(n+4)+5 from rfl,aZd,aZd,Option.some.injEq]at e;rw[e]
def aO7(N:Nat)(s:Arr 8)(b:List Int):Arr 8:=(dM N s b).getD (Arr.zero 8)
theorem bIf(N:Nat)(hN:70<=N)(s:Arr 8)(b:List Int)(hb:b.length=64)(hB:Byt b):dM N s b=some (aO7 N s b):=by obtain⟨r,h,_⟩:=aUl N hN s b hb hB;unfold aO7;rw[h];rfl
theorem bJv(N:Nat)(hN:70<=N)(s:Arr 8)(b:List Int)(hb:b.length=64)(hB:Byt b)(k0:Int->Arr 32->Arr 8->List Int->Option (Arr 32))(a2:Int)(a3:Arr 32)(a5:List Int)(g0:0<=a2)(g1:a2<=1000000000):(bd? (hJ N b) fun v8=>eZ N k0 N a2 0 a3 s a5 v8 s)=k0 (a2+64) a3 (aO7 N s b) a5:=by
 obtain⟨r,h,h'⟩:=aUl N hN s b hb hB;have e:aO7 N s b=r:=by unfold aO7;rw[h];rfl
 rw[h' k0 a2 a3 a5 g0 g1,e]
def vL(N:Nat):Nat->Arr 8->List Int->Arr 8
 |0,s,_=>s
 |k+1,s,l=>vL N k (aO7 N s (l.take 64)) (l.drop 64)
theorem aIc(N:Nat):∀(k:Nat) (s:Arr 8) (l:List Int),vL N (k+1) s l=aO7 N (vL N k s l) ((l.drop (64*k)).take 64)
 |0,s,l=>rfl
 |k+1,s,l=>by rw[vL,aIc N k,vL,dh,show 64+64*k=64*(k+1) by omega]
theorem aC2(N:Nat):∀(k:Nat) (s:Arr 8) (l m:List Int),64*k<=l.length->vL N k s (l++m)=vL N k s l
 |0,s,l,m,_=>rfl
 |k+1,s,l,m,h=>by rw[vL,vL,e9 (by omega),ee (by omega)];exact aC2 N k _ _ _ (by rw[aq];omega)
theorem aO4(h:Byt l)(n:Nat):Byt (l.take n):=fun x hx=>h x (List.mem_of_mem_take hx)
theorem aQ1(h:Byt l)(n:Nat):Byt (l.drop n):=fun x hx=>h x (List.mem_of_mem_drop hx)
theorem aVc{m:List Int}(h:Byt l)(h':Byt m):Byt (l++m):=fun x hx=>(dn.1 hx).elim (h x) (h' x)
theorem bLe(N m:Nat):oD N (m+1)=oG N (oD N m):=rfl
theorem bMw(m:Nat):kL (m+1)=oJ (kL m):=rfl
theorem bKq(m:Nat):dQ (m+1)=fE (dQ m):=rfl
theorem aG2(N:Nat)(hN:70<=N)(a3:Arr 32)(msg:List Int)(hB:Byt msg)(hl:msg.length<1000000000):∀(k i m:Nat) (s:Arr 8),msg.length=64*(i+k)->k<m->
  oD N m ((64*i:Nat):Int) a3 s msg=kL N 0 a3 (vL N k s (msg.drop (64*i))) (Arr.zero 32)
 |k,i,0,s,_,h=>by omega
 |0,i,m+1,s,h,_=>by
  rw[bLe];unfold oG;rw[aE (decide_eq_false (by omega))];rfl
 |k+1,i,m+1,s,h,hm=>by rw[bLe];unfold oG;rw[aF (decide_eq_true (by omega)),aM (by omega) (by omega),aC (by omega),aC (by omega),aC (by omega),aC (by omega),aC (by omega)];simp only[aD];rw[show(((64*i:Nat):Int)+64).toNat-((64*i:Nat):Int).toNat=64 by omega,π];rw[bJv N hN s _ (by rw[bu,aq];omega) (aO4 (aQ1 hB _) _) _ _ _ _ (by omega) (by omega),show((64*i:Nat):Int)+64=((64*(i+1):Nat):Int) by omega,aG2 N hN a3 msg hB hl k (i+1) m _ (by omega) (by omega),vL,dh];rfl
theorem dig(st:Arr 8×(Arr 64×Int))(a b:Arr 32):∀(k t m m':Nat) (r:Arr 32),t+k=32->k<m->k<m'->∃v,dQ m (t:Int) st a r=some v/\kL m' (t:Int) b st.1 r=some v
 |k,t,0,m',r,_,h,_=>by omega
 |k,t,m+1,0,r,_,_,h=>by omega
 |0,t,m+1,m'+1,r,h,_,_=>by
  rw[bKq,bMw];unfold fE oJ;rw[aE (decide_eq_false (by omega)),aE (decide_eq_false (by omega))];exact⟨_,rfl,rfl⟩
 |k+1,t,m+1,m'+1,r,h,hm,hm'=>by
  have e1:Int.tdiv (t:Int) 4=((t/4:Nat):Int):=by rw[show(4:Int)=((4:Nat):Int)from rfl,<-Int.ofNat_tdiv]
  have e2:bo (t:Int) 4=((t%4:Nat):Int):=by rw[show(4:Int)=((4:Nat):Int)from rfl,<-fm]
  have e3:(dx .u32:Int)=32:=rfl;rw[bKq,bMw];unfold fE oJ;rw[e1,e2,aF (decide_eq_true (by omega)),aF (decide_eq_true (by omega)),aM (n:=((t/4:Nat):Int)) (by omega) (by omega),aM (n:=((t/4:Nat):Int)) (by omega) (by omega)];rw[uP st.1 (j:=((t/4:Nat):Int)) (by omega) (by omega)];rw[uP st.1 (by omega) (by omega),aM (n:=8*((t%4:Nat):Int)) (by omega) (by omega),aM (n:=8*((t%4:Nat):Int)) (by omega) (by omega),aM (n:=24-8*((t%4:Nat):Int)) (by omega) (by omega),aM (n:=24-8*((t%4:Nat):Int)) (by omega) (by omega),aC (by omega),aC (by omega),aC (by omega),aC (by omega),aC (by omega),aC (by omega),aC (by omega),aC (by omega),aC (by omega),aC (by omega),aM (n:=(t:Int)+1) (by omega) (by omega),aM (n:=(t:Int)+1) (by omega) (by omega),show((t:Int)+1)=((t+1:Nat):Int) by omega];exact dig st a b k (t+1) m m' _ (by omega) (by omega) (by omega)
theorem bAx(t:Str):Byt (aG t):=by intro x hx;obtain⟨c,_,rfl⟩:=List.mem_map.1 hx;have:=c.toNat_lt;omega
theorem aGd(h:Byt l):aG (bI l)=l:=by
 induction l with
 |nil=>rfl
 |cons x l ih=>
  have hx:=h x (by simp);have:aG (bI (x::l))=((UInt8.ofNat x.toNat).toNat:Int)::aG (bI l):=rfl;rw[this,ih fun y hy=>h y (by simp[hy])];congr 1;rw[UInt8.toNat_ofNat'];omega
theorem qU:(bI l).length=l.length:=μ _
theorem tW(t:Str)(n:Nat):(aG t).take n=aG (t.take n):=(List.map_take).symm
theorem bA1(t u:Str):aG (t++u)=aG t++aG u:=bn
theorem w64(h:0<=x)(h':x<18446744073709551616):δ .u64 x=x:=Go.u64_wrap_id x h h'
abbrev St:=Arr 8×(Arr 64×Int)
theorem bLm(N m:Nat):bW N (m+1)=kF N (bW N m):=rfl
theorem bAu(N m:Nat)(a1:Str)(s:Arr 8)(b:Arr 64)(n:Nat)(z:St)(h:a1≠[])(hn:n<1099511627776)(ha:a1.length<1099511627776):
  bW N (m+1) a1 (s,(b,(n:Int))) z=if n%64+min a1.length (64-n%64)=64 then bd? (dM N s (b.put (n%64) ((aG a1).take (min a1.length (64-n%64)))).l) (fun v=>bW N m (a1.drop (min a1.length (64-n%64))) (v,(b.put (n%64) ((aG a1).take (min a1.length (64-n%64))),((n+min a1.length (64-n%64):Nat):Int))) z)else bW N m (a1.drop (min a1.length (64-n%64))) (s,(b.put (n%64) ((aG a1).take (min a1.length (64-n%64))),((n+min a1.length (64-n%64):Nat):Int))) z:=by
 have e:δ .i64 (bo (n:Int) 64)=((n%64:Nat):Int):=by rw[show(64:Int)=((64:Nat):Int)from rfl,<-fm,vE (by omega) (by omega)]
 have hb:(!(a1==([]:Str)))=true:=by cases a1 with
  |nil=>exact absurd rfl h
  |cons x y=>rfl
 rw[bLm];unfold kF;rw[hb,aN];dsimp only;rw[e,π,aP];generalize hA:n%64=A;have hA':A<64:=by omega
 generalize hC:min a1.length (64-A)=C;have hC':C<=a1.length:=by omega
 have hC2:A+C<=64:=by omega
 have hd:(a1.drop C).take (a1.length-C)=a1.drop C:=bc (by rw[aq];exact ω _);rw[π,w64 (x:=(C:Int)) (by omega) (by omega),w64 (x:=(n:Int)+(C:Int)) (by omega) (by omega),hd,show((n:Int)+(C:Int))=((n+C:Nat):Int) by omega];rw[aC (by omega),aC (by omega),aC (by omega),aC (by omega),aC (by omega),aC (by omega),aM (by omega) (by omega)];by_cases hq:A+C=64
 ·rw[if_pos hq,kC (by omega),aN,aC (by omega)];have hc:zL (b.put A ((aG a1).take C)).l 0 (64-0) 64=(b.put A ((aG a1).take C)).l:=by have:=(b.put A ((aG a1).take C)).len;unfold zL;simp[this]
  rw[hc]
 ·rw[if_neg hq,fA (by omega),aK]
def h0:Arr 8:=Arr.from [1779033703,3144134277,1013904242,2773480762,1359893119,2600822924,528734635,1541459225] 8
structure Rep (N:Nat) (st:St) (msg:List Int):Prop where
 n:st.2.2=(msg.length:Int)
 state:st.1=vL N (msg.length/64) h0 msg
 tail:st.2.1.l.take (msg.length%64)=msg.drop (64*(msg.length/64))
 byt:Byt msg
theorem aMa(N:Nat)(hN:70<=N)(z:St):∀(m:Nat) (a1:Str) (st:St) (msg:List Int),Rep N st msg->(a1.length=0/\1<=m)\/(msg.length%64+a1.length)/64+2<=m->msg.length+a1.length<1099511627776->∃st',bW N m a1 st z=some st'/\Rep N st' (msg++aG a1)
 |0,a1,st,msg,_,h,_=>by omega
 |m+1,[],st,msg,hR,_,_=>by
  refine⟨st,?_,?_⟩
  ·rw[bLm];rfl
  ·show Rep N st (msg++[]);rw[χ];exact hR
 |m+1,x::a,st,msg,hR,h,hl=>by
  have h:(msg.length%64+(x::a).length)/64+2<=m+1:=h.elim (fun h=>by simp at h) id;generalize hxa:x::a=a1 at h hl|-;have hne:a1≠[]:=by rw[<-hxa];exact List.cons_ne_nil _ _
  have hpos:0<a1.length:=by rw[<-hxa];exact Nat.succ_pos _
  clear hxa;have hst0:st=(st.1,(st.2.1,((msg.length:Nat):Int))):=by rw[<-hR.n]
  rw[hst0,bAu N m a1 st.1 st.2.1 msg.length z hne (by omega) (by omega)];clear hst0;have hA':msg.length%64<64:=Nat.mod_lt _ (by omega);have htl:=hR.tail;have hst:=hR.state;have hdm:=Nat.div_add_mod msg.length 64;generalize hA:msg.length%64=A at*;generalize hQ:msg.length/64=Q at*;generalize hC:min a1.length (64-A)=C;have hC':C<=a1.length:=by omega
  have hC0:0<C:=by omega
  have hC2:A+C<=64:=by omega
  have hlt:((aG a1).take C).length=C:=by rw[bu,aP];omega
  have hput:(st.2.1.put A ((aG a1).take C)).l=st.2.1.l.take A++(aG a1).take C++st.2.1.l.drop (A+C):=by rw[Arr.l_put (by omega),hlt]
  have hsp:a1=a1.take C++a1.drop C:=(gf C a1).symm;have hm2:msg++aG a1=(msg++aG (a1.take C))++aG (a1.drop C):=by rw[υ,<-bA1,gf]
  have hl2:(msg++aG (a1.take C)).length=msg.length+C:=by rw[κ,<-tW,hlt]
  have hB2:Byt (msg++aG (a1.take C)):=aVc hR.byt (bAx _);rw[hm2];by_cases hq:A+C=64
  ·rw[if_pos hq];have hpl:(st.2.1.put A ((aG a1).take C)).l=st.2.1.l.take A++(aG a1).take C:=by rw[hput,hq,eg (by rw[st.2.1.len];exact ω _),χ]
   have hblk:(st.2.1.put A ((aG a1).take C)).l=((msg++aG (a1.take C)).drop (64*Q)).take 64:=by have h64:(msg.drop (64*Q)++aG (a1.take C)).take 64=msg.drop (64*Q)++aG (a1.take C):=bc (by rw[κ,aq,<-tW,hlt];omega);rw[hpl,ee (by omega),htl,tW,h64]
   have hcomp:=bIf N hN st.1 (st.2.1.put A ((aG a1).take C)).l (Arr.len _) (by rw[hblk];exact aO4 (aQ1 hB2 _) _);rw[hcomp,aB];have hR':Rep N ((aO7 N st.1 (st.2.1.put A ((aG a1).take C)).l),((st.2.1.put A ((aG a1).take C)),((msg.length+C:Nat):Int))) (msg++aG (a1.take C)):=by
    refine⟨?_,?_,?_,hB2⟩
    ·rw[hl2]
    ·rw[hl2,show(msg.length+C)/64=Q+1 by omega,aIc,aC2 N Q h0 msg _ (by omega),<-hst,hblk]
    ·rw[hl2,show(msg.length+C)%64=0 by omega,show(msg.length+C)/64=Q+1 by omega,List.take_zero,eg (by omega)]
   exact aMa N hN z m (a1.drop C) _ _ hR' (.inr (by rw[hl2,aq];omega)) (by rw[hl2,aq];omega)
  ·rw[if_neg hq];have hR':Rep N (st.1,((st.2.1.put A ((aG a1).take C)),((msg.length+C:Nat):Int))) (msg++aG (a1.take C)):=by
    refine⟨?_,?_,?_,hB2⟩
    ·rw[hl2]
    ·rw[hl2,show(msg.length+C)/64=Q by omega,aC2 N Q h0 msg _ (by omega),<-hst]
    ·rw[hl2,show(msg.length+C)%64=A+C by omega,show(msg.length+C)/64=Q by omega,hput,ee (by omega),<-htl,tW];have hln:(st.2.1.l.take A++aG (a1.take C)).length=A+C:=by rw[κ,bu,st.2.1.len,<-tW,hlt];omega
     rw[e9 (Nat.le_of_eq hln.symm),bc (Nat.le_of_eq hln)]
   exact aMa N hN z m (a1.drop C) _ _ hR' (.inl (by rw[aq];omega)) (by rw[hl2,aq];omega)
theorem aM0(N:Nat)(hN:70<=N)(st:St)(msg:List Int)(t:Str)(hR:Rep N st msg)(h:t.length/64+3<=N)(hl:msg.length+t.length<1099511627776):∃st',bY N st t=some st'/\Rep N st' (msg++aG t):=
 aMa N hN _ N t st msg hR (.inr (by omega)) hl
def bCn(n:Int):List Int:=[δ .u8 (n/2^(56:Nat)),δ .u8 (n/2^(48:Nat)),δ .u8 (n/2^(40:Nat)),δ .u8 (n/2^(32:Nat)),δ .u8 (n/2^(24:Nat)),δ .u8 (n/2^(16:Nat)),δ .u8 (n/2^(8:Nat)),δ .u8 (n/2^(0:Nat))]
theorem wrap_u8(n:Int):0<=δ .u8 n/\δ .u8 n<256:=by
 have:δ .u8 n=n%256:=by simp[δ,dx,IntKind.signed]
 omega
theorem aZ3(n:Int):Byt (bCn n):=by intro x hx;simp only[bCn,bw,dm,or_false]at hx;rcases hx with rfl|rfl|rfl|rfl|rfl|rfl|rfl|rfl<;>exact wrap_u8 _
theorem bM6(N m:Nat):bV N (m+1)=fH N (bV N m):=rfl
theorem bNl(m:Nat):dB (m+1)=jX (dB m):=rfl
theorem bMn(N m j:Nat)(z:Int)(st:St)(w:Arr 32)(a:List Int)(hj:j<8)(ha:a.length<1099511627776):bV N (m+1) z (j:Int) st w a=bV N m z ((j+1:Nat):Int) st w (a++[δ .u8 (z/2^(56-8*j))]):=by have eb:(dx .u64:Int)=64:=rfl;rw[bM6];unfold fH;rw[aF (decide_eq_true (by omega)),aM (by omega) (by omega),aM (by omega) (by omega),aC (by omega),aC (by omega),aD,aC (by simp only[ξ,au];omega),aM (by omega) (by omega),aD,show(56-8*(j:Int)).toNat=56-8*j by omega,show((j:Int)+1)=((j+1:Nat):Int) by omega]
theorem bK6(m j:Nat)(z:Int)(a:List Int)(hj:j<8)(ha:a.length<1099511627776):dB (m+1) z (j:Int) a=dB m z ((j+1:Nat):Int) (a++[δ .u8 (z/2^(56-8*j))]):=by have eb:(dx .u64:Int)=64:=rfl;rw[bNl];unfold jX;rw[aF (decide_eq_true (by omega)),aM (by omega) (by omega),aM (by omega) (by omega),aC (by omega),aC (by omega),aD,aC (by simp only[ξ,au];omega),aM (by omega) (by omega),aD,show(56-8*(j:Int)).toNat=56-8*j by omega,show((j:Int)+1)=((j+1:Nat):Int) by omega]
def aR0(z:Int):Nat->List Int->List Int
 |0,a=>a
 |k+1,a=>aR0 z k (a++[δ .u8 (z/2^(56-8*(7-k)))])
theorem bHr(z:Int)(a:List Int):aR0 z 8 a=a++bCn z:=by simp only[aR0,υ,List.cons_append,cg];rfl
theorem bHb(N:Nat)(z:Int)(st:St)(w:Arr 32):∀(k j m:Nat) (a:List Int),j+k=8->k<m->a.length+k<1099511627776->bV N m z (j:Int) st w a=(bd? (bY N st (bI (aR0 z k a))) fun v=>dQ N 0 v w (Arr.zero 32))
 |k,j,0,a,_,h,_=>by omega
 |0,j,m+1,a,hj,_,_=>by
  rw[bM6];unfold fH;rw[aE (decide_eq_false (by omega)),aD];rfl
 |k+1,j,m+1,a,hj,hm,ha=>by rw[bMn N m j z st w a (by omega) (by omega),bHb N z st w k (j+1) m _ (by omega) (by omega) (by simp only[κ,ξ,au];omega),aR0,show 7-k=j by omega]
theorem bGs(z:Int):∀(k j m:Nat) (a:List Int),j+k=8->k<m->a.length+k<1099511627776->dB m z (j:Int) a=some (aR0 z k a)
 |k,j,0,a,_,h,_=>by omega
 |0,j,m+1,a,hj,_,_=>by
  rw[bNl];unfold jX;rw[aE (decide_eq_false (by omega)),aD];rfl
 |k+1,j,m+1,a,hj,hm,ha=>by rw[bK6 m j z a (by omega) (by omega),bGs z k (j+1) m _ (by omega) (by omega) (by simp only[κ,ξ,au];omega),aR0,show 7-k=j by omega]
theorem bOl(N m:Nat):fF N (m+1)=kE N (fF N m):=rfl
theorem bOi(N m:Nat):jW N (m+1)=nU N (jW N m):=rfl
theorem aYr(N:Nat)(zz:Int)(st:St)(w:Arr 32)(p:List Int)(hn:st.2.2=(p.length:Int))(hl:p.length<549755813888):∀(k m m':Nat) (a:List Int),(p.length+a.length+k)%64=56->k<64->k<m->k<m'->a.length+k<549755813888->
  ∃z,(p.length+a.length+z)%64=56/\z<=k/\fF N m zz st w a=bV N N zz 0 st w (a++bg z 0)/\jW N m' p (p++a)=dB N (δ .u64 (8*(δ .u64 ((p.length:Nat):Int)))) 0 (p++(a++bg z 0))
 |k,0,m',a,_,_,h,_,_=>by omega
 |k,m+1,0,a,_,_,_,h,_=>by omega
 |k,m+1,m'+1,a,h,hk,hm,hm',hal=>by
  have e1:bo ((p.length:Int)+(a.length:Int)) 64=(((p.length+a.length)%64:Nat):Int):=by rw[<-Int.natCast_add];exact(fm _ 64).symm
  have e2:bo (((p++a).length:Nat):Int) 64=(((p.length+a.length)%64:Nat):Int):=by rw[κ];exact(fm _ 64).symm
  rw[bOl,bOi];unfold kE nU;rw[hn,vE (n:=(p.length:Int)) (by omega) (by omega),e1,e2,aM (by omega) (by omega)];by_cases hz:(p.length+a.length)%64=56
  ·refine⟨0,hz,di _,?_,?_⟩
   ·rw[jT (by omega),aK,aD,iu,χ]
   ·rw[jT (by omega),aK,aD,iu,χ]
  ·rw[mV (by omega),aN,aN,aD,aC (by simp only[ξ,au];omega),aD,aD,aC (by simp only[κ,ξ,au];omega),aD];obtain⟨k',rfl⟩:∃k',k=k'+1:=⟨k-1,by cases k with
    |zero=>exact absurd h hz
    |succ k=>rfl⟩
   obtain⟨z,h1,h2,h3,h4⟩:=aYr N zz st w p hn hl k' m m' (a++[0]) (by simp only[κ,ξ,au];omega) (by omega) (by omega) (by omega) (by simp only[κ,ξ,au];omega);simp only[κ,ξ,au]at h1;refine⟨z+1,by omega,by omega,?_,?_⟩
   ·rw[h3,υ,iv];rfl
   ·rw[υ,h4,υ,iv];rfl
theorem bKi(N:Nat)(hN:100<=N)(st:St)(msg:List Int)(hR:Rep N st msg)(hl:msg.length/64+4<=N)(hl':msg.length<900000000):∃r,eQ N st=some r/\oT N msg=some r:=by
 generalize hzz:δ .u64 (8*st.2.2)=zz;obtain⟨z,h1,h2,h3,h4⟩:=aYr N zz st (Arr.zero 32) msg hR.n (by omega) ((64+56-(msg.length+1)%64)%64) N N [128] (by show(msg.length+1+_)%64=56;omega) (by omega) (by omega) (by omega) (by show 1+_<_;omega);have h1:(msg.length+1+z)%64=56:=h1;generalize hd:[(128:Int)]++bg z 0=d at h3 h4;have hdl:d.length=1+z:=by rw[<-hd];simp;omega
 have hz:z<64:=by omega
 have hdB:Byt d:=by
  intro x hx;rw[<-hd]at hx;rcases dn.1 hx with h|h
  ·simp at h;omega
  ·have:=List.eq_of_mem_replicate h;omega
 have l1:=bHb N zz st (Arr.zero 32) 8 0 N d rfl (by omega) (by omega);have l2:=bGs (δ .u64 (8*(δ .u64 ((msg.length:Nat):Int)))) 8 0 N (msg++d) rfl (by omega) (by rw[κ];omega);rw[bHr]at l1 l2;have ez:δ .u64 (8*(δ .u64 ((msg.length:Nat):Int)))=zz:=by rw[<-hzz,hR.n,w64 (x:=(msg.length:Int)) (by omega) (by omega)]
 rw[ez]at l2 h4;have h3:=h3.trans l1;have h4:=h4.trans l2;generalize hL:bCn zz=L at h3 h4;have hLl:L.length=8:=by rw[<-hL];rfl
 have hLB:Byt L:=by rw[<-hL];exact aZ3 _
 obtain⟨st',g1,g2⟩:=aM0 N (by omega) st msg (bI (d++L)) hR (by rw[qU,κ];omega) (by rw[qU,κ];omega);rw[g1,aB]at h3;rw[aGd (aVc hdB hLB)]at g2;obtain⟨r,o1,o2⟩:=dig st' (Arr.zero 32) (Arr.zero 32) 32 0 N N (Arr.zero 32) rfl (by omega) (by omega);have hml:(msg++(d++L)).length=msg.length+1+z+8:=by rw[κ,κ];omega
 refine⟨r,?_,?_⟩
 ·unfold eQ;rw[hzz];exact h3.trans o1
 ·unfold oT rB;rw[aC (by omega),aD,aC (by simp only[ξ,au];omega),aD,h4,aB,υ,aD];have hb:=aG2 N (by omega) (Arr.zero 32) (msg++(d++L)) g2.byt (by omega) ((msg.length+1+z+8)/64) 0 N h0 (by rw[hml];omega) (by omega);have hs:=g2.state;rw[hml]at hs;refine hb.trans ?_;rw[Nat.mul_zero,cc,<-hs];exact o2
theorem bNo(N m:Nat):rX N (m+1)=sD N (rX N m):=rfl
theorem bFu(N m:Nat):gQ N (m+1)=kU N (gQ N m):=rfl
theorem bOv(N:Nat):Rep N (h0,(Arr.zero 64,0)) []:=⟨rfl,rfl,rfl,fun x hx=>(dm hx).elim⟩
theorem aV3{N:Nat}(hN:1000000<=N)(l:List Str)(hl:l.length<=1000)(hp:∀x∈l,x.length<=10000)(z:Arr 16):∀(k i m m':Nat) (st:St) (msg:List Int),i+k=l.length->k<m->k<m'->Rep N st msg->msg.length<=1+10010*i->
  ∃r msg',rX N m l ((l.length:Nat):Int) (i:Int) z st=some (Arr.part r 0 16)/\gQ N m' l (i:Int) msg=some msg'/\oT N msg'=some r
 |k,i,0,m',st,msg,_,h,_,_,_=>by omega
 |k,i,m+1,0,st,msg,_,_,h,_,_=>by omega
 |0,i,m+1,m'+1,st,msg,hi,_,_,hR,hm=>by
  obtain⟨r,h1,h2⟩:=bKi N (by omega) st msg hR (by omega) (by omega);refine⟨r,msg,?_,?_,h2⟩
  ·rw[bNo];unfold sD;rw[aE (decide_eq_false (by omega))];show(bd? (eQ N st) fun v14=>some (Arr.part v14 0 16))=_;rw[h1,aB]
  ·rw[bFu];unfold kU;rw[aE (decide_eq_false (by omega)),aD]
 |k+1,i,m+1,m'+1,st,msg,hi,hm,hm',hR,hml=>by
  have hlt:i<l.length:=by omega
  have hx:=hp _ (da hlt);have he:(fR l[i]).length<=10010:=by unfold fR;have:=(cM (dK (show(l[i]).length<=1000000 by omega))).2;rw[κ];omega
  obtain⟨st',g1,g2⟩:=aM0 N (by omega) st msg (fR l[i]) hR (by omega) (by omega);obtain⟨r,msg',h1,h2,h3⟩:=aV3 hN l hl hp z k (i+1) m m' st' (msg++aG (fR l[i])) (by omega) (by omega) (by omega) g2 (by rw[κ,aP];omega);refine⟨r,msg',?_,?_,h3⟩
  ·rw[bNo];unfold sD;rw[aF (decide_eq_true (by omega)),bJ (ε hlt),aLc (by omega) _ (by omega),aB,aD,cR];show(bd? (bY N st (fR l[i])) _)=_;rw[g1,aB,aM (by omega) (by omega),show((i:Int)+1)=((i+1:Nat):Int) by omega];exact h1
  ·rw[bFu];unfold kU;rw[aF (decide_eq_true (by omega)),bJ (ε hlt),bCc (by omega) _ (by omega),aB,aD,aD,aC (by rw[aP];omega),aM (by omega) (by omega),aD,show((i:Int)+1)=((i+1:Nat):Int) by omega];exact h2
theorem bNq(m:Nat):gW (m+1)=kR (gW m):=rfl
theorem aVg(v:Arr 32)(z:Arr 16):∀(k t m:Nat) (w:Arr 16),t+k=16->k<m->w.l.take t=v.l.take t->gW m (t:Int) z v w=some (Arr.part v 0 16)
 |k,t,0,w,_,h,_=>by omega
 |0,t,m+1,w,ht,_,hw=>by
  obtain rfl:t=16:=by omega
  rw[bNq];unfold kR;rw[aE (decide_eq_false (by omega))];refine congrArg some (Arr.ext ?_);rw[Arr.l_part (by omega),cc,<-hw,bc (by rw[w.len];exact ω _)]
 |k+1,t,m+1,w,ht,hm,hw=>by
  rw[bNq];unfold kR;rw[aF (decide_eq_true (by omega)),uP v (by omega) (by omega),aC (by omega),aC (by omega),aC (by omega),aM (by omega) (by omega),π,show((t:Int)+1)=((t+1:Nat):Int) by omega];refine aVg v z k (t+1) m _ (by omega) (by omega) ?_;have hwl:t<w.l.length:=by rw[w.len];omega
  have hvl:t<v.l.length:=by rw[v.len];omega
  rw[Arr.l_set,jx,jx,List.getElem?_set_self hwl,ε hvl,List.take_set,List.set_eq_of_length_le (by rw[bu];omega),hw,ba,ε hvl];rfl
theorem aUy(hN:1000000<=N)(p:Int)(l:List Str)(hl:l.length<=1000)(hp:∀x∈l,x.length<=10000):∃r,nZ N p l=some r/\lK N p l=some r:=by
 have hB:Byt [δ .u8 p]:=fun x hx=>by rw[bk.1 hx];exact wrap_u8 p
 obtain⟨st,g1,g2⟩:=aM0 N (by omega) _ [] (bI [δ .u8 p]) (bOv N) (by show 1/64+3<=N;omega) (by show 0+1<_;omega);rw[aGd hB,cg]at g2;obtain⟨r,msg',h1,h2,h3⟩:=aV3 hN l hl hp (Arr.zero 16) l.length 0 N N st _ (by omega) (by omega) (by omega) g2 (by show 1<=_;omega);refine⟨Arr.part r 0 16,?_,?_⟩
 ·unfold nZ vA;rw[aB];show(bd? (bY N (h0,(Arr.zero 64,0)) (bI [δ .u8 p])) _)=_;rw[g1,aB];exact h1
 ·unfold lK sI sV;have h2:gQ N N l 0 [δ .u8 p]=some msg':=h2;rw[h2,aB,aD,h3,aB];show(bd? (gW N ((0:Nat):Int) (Arr.zero 16) r (Arr.zero 16)) _)=_;rw[aVg r (Arr.zero 16) 16 0 N (Arr.zero 16) rfl (by omega) rfl,aB]
def nd(N:Nat)(a b:Arr 16):Arr 16:=(dR N a b).getD (Arr.zero 16)
def emp(N:Nat):Arr 16:=(fN N).getD (Arr.zero 16)
def lf(N:Nat)(s:Str):Arr 16:=(cB N s).getD (Arr.zero 16)
theorem uM(hN:1000000<=N)(a b:Arr 16):dR N a b=some (nd N a b)/\fU N a b=some (nd N a b):=by
 obtain⟨d,h1,h2⟩:=aUy hN 31 [bI a.l,bI b.l] (by simp only[ξ,au];omega) (fun x hx=>by
  simp only[bw,dm,or_false]at hx;rcases hx with rfl|rfl
  ·rw[qU,a.len];omega
  ·rw[qU,b.len];omega)
 have e1:dR N a b=some d:=by unfold dR;rw[h1,aB]
 have e2:fU N a b=some d:=by unfold fU;rw[h2,aB]
 have e3:nd N a b=d:=by unfold nd;rw[e1];rfl
 rw[e3];exact⟨e1,e2⟩
theorem aZ9(hN:1000000<=N):fN N=some (emp N)/\kK N=some (emp N):=by
 obtain⟨d,h1,h2⟩:=aUy hN 32 [] (by simp only[au];omega) (fun x hx=>(dm hx).elim);have e1:fN N=some d:=by unfold fN;rw[h1,aB]
 have e2:kK N=some d:=by unfold kK;rw[h2,aB]
 have e3:emp N=d:=by unfold emp;rw[e1];rfl
 rw[e3];exact⟨e1,e2⟩
theorem aHm(hN:1000000<=N)(s:Str)(hs:s.length<=10000):cB N s=some (lf N s)/\dC N s=some (lf N s):=by
 obtain⟨d,h1,h2⟩:=aUy hN 30 [s] (by simp only[ξ,au];omega) (fun x hx=>by rw[bk.1 hx];exact hs);have e1:cB N s=some d:=by unfold cB;rw[h1,aB]
 have e2:dC N s=some d:=by unfold dC;rw[h2,aB]
 have e3:lf N s=d:=by unfold lf;rw[e1];rfl
 rw[e3];exact⟨e1,e2⟩
theorem bIb:∀n:Fin 256,rA[n.val]?=some (UInt8.ofNat (Lib.bitLen n.val)):=by decide+kernel
theorem aZu(y:Nat)(h:y<256)(f:UInt8->Option β):aZ rA (δ .u8 (y:Int)) f=f (UInt8.ofNat (Lib.bitLen y)):=by
 have e:δ .u8 (y:Int)=(y:Int):=by
  have:δ .u8 (y:Int)=(y:Int)%256:=by simp[δ,dx,IntKind.signed]
  omega
 rw[e,bJ (bIb ⟨y,h⟩)]
theorem aZr(y:Nat)(h:y<256):(((UInt8.ofNat (Lib.bitLen y)).toNat:Nat):Int)=(Lib.bitLen y:Int):=by have:Lib.bitLen y<=8:=Lib.bitLen_le8 ⟨y,h⟩;rw[UInt8.toNat_ofNat'];omega
theorem aZ2(N x:Nat)(hx:x<65536):pW N (x:Int)=some (Lib.bitLen x:Int):=by
 have b8:∀y:Nat,y<256->Lib.bitLen y<=8:=fun y h=>Lib.bitLen_le8 ⟨y,h⟩;have p8:(x:Int)/2^8=((x/256:Nat):Int):=by rw[show(2:Int)^8=256 from rfl];omega
 unfold pW;rw[aE (decide_eq_false (by omega)),aB];dsimp only;rw[aE (decide_eq_false (by omega)),aB];dsimp only;by_cases h3:256<=x
 ·have s3:=Lib.bitLen_shift8 x h3 (by omega);have:=b8 (x/256) (by omega);rw[aF (decide_eq_true (by omega)),aM (by omega) (by omega),aB];dsimp only;rw[p8,aZu _ (by omega),aZr _ (by omega),vE (by omega) (by omega),aM (by omega) (by omega)];congr 1;omega
 ·have:=b8 x (by omega);rw[aE (decide_eq_false (by omega)),aB];dsimp only;rw[aZu _ (by omega),aZr _ (by omega),vE (by omega) (by omega),aM (by omega) (by omega)];congr 1;omega
theorem aL0:∀(k x:Nat),x<2^k->k<=62->0<x->2^(Lib.bitLen x-1)<=x/\x<2*2^(Lib.bitLen x-1)/\1<=Lib.bitLen x/\Lib.bitLen x<=k
 |0,x,h,_,h0=>by simp at h;omega
 |k+1,x,h,hk,h0=>by
  have hx:x<2^64:=Nat.lt_of_lt_of_le h (fv (by omega) (by omega));rw[Lib.bitLen_half x (by omega) hx];by_cases h1:x/2=0
  ·have:Lib.bitLen 0=0:=by decide
   rw[h1,this];have:x=1:=by omega
   subst this;simp
  ·obtain⟨a,b,c,d⟩:=aL0 k (x/2) (by rw[iy]at h;omega) (by omega) (by omega);have e:2^(1+Lib.bitLen (x/2)-1)=2*2^(Lib.bitLen (x/2)-1):=by rw[show 1+Lib.bitLen (x/2)-1=(Lib.bitLen (x/2)-1)+1 by omega,iy];omega
   rw[e];omega
def sp(n:Nat):Nat:=2^(Lib.bitLen (n-1)-1)
theorem aO1(n:Nat)(h:2<=n)(h':n<=2199023255552):1<=sp n/\sp n<n/\n<=2*sp n:=by obtain⟨a,b,c,d⟩:=aL0 62 (n-1) (by omega) (by omega) (by omega);have:0<2^(Lib.bitLen (n-1)-1):=Nat.two_pow_pos _;unfold sp;omega
theorem bK4(m:Nat):lG (m+1)=pE (lG m):=rfl
theorem uI(N n:Nat)(h:2<=n)(h':n<=60000):fP N (n:Int)=some ((sp n:Nat):Int):=by
 obtain⟨a,b,c,d⟩:=aL0 62 (n-1) (by omega) (by omega) (by omega);have eb:(dx .i64:Int)=64:=rfl;unfold fP aAu;rw[aM (by omega) (by omega),show(n:Int)-1=((n-1:Nat):Int) by omega,w64 (by omega) (by omega),aZ2 N (n-1) (by omega),aB,aB,aM (by omega) (by omega),aC (by omega),aC (by omega)];have e:(1:Int)*2^((Lib.bitLen (n-1):Int)-1).toNat=((sp n:Nat):Int):=by rw[show((Lib.bitLen (n-1):Int)-1).toNat=Lib.bitLen (n-1)-1 by omega,Int.one_mul];unfold sp;rw[Int.natCast_pow];rfl
 rw[e];have:=aO1 n h (by omega);rw[aM (by omega) (by omega)]
theorem bCe{a b:Nat}(h1:2^a<n)(h2:n<=2*2^a)(h3:2^b<n)(h4:n<=2*2^b):a=b:=by
 rcases ft a b with h|h|h
 ·have:2^(a+1)<=2^b:=fv (by omega) h;rw[iy]at this;omega
 ·exact h
 ·have:2^(b+1)<=2^a:=fv (by omega) h;rw[iy]at this;omega
theorem bAo(N n:Nat)(h':n<=60000):∀(k m a:Nat),a+k=45->k<m->2^a<n->∃b,2^b<n/\n<=2*2^b/\lG m (n:Int) ((2^a:Nat):Int)=some ((2^b:Nat):Int)
 |k,0,a,_,h,_=>by omega
 |0,m+1,a,h,_,h2=>by
  obtain rfl:a=45:=by omega
  have:2^45=35184372088832:=rfl;omega
 |k+1,m+1,a,h,hm,h2=>by
  have e:2*((2^a:Nat):Int)=((2^(a+1):Nat):Int):=by rw[iy];omega
  have e2:2^(a+1)=2^a*2:=iy ..;rw[bK4];unfold pE;rw[e,aM (by omega) (by omega)];by_cases h3:2^(a+1)<n
  ·rw[aF (decide_eq_true (by omega)),aM (by omega) (by omega)];exact bAo N n h' k m (a+1) (by omega) (by omega) h3
  ·rw[aE (decide_eq_false (by omega))];exact⟨a,h2,by omega,rfl⟩
theorem aBl(N n:Nat)(hN:50<=N)(h:2<=n)(h':n<=60000):gY N (n:Int)=some ((sp n:Nat):Int):=by obtain⟨b,h1,h2,h3⟩:=bAo N n h' 45 N 0 (by omega) (by omega) (by show 1<n;omega);have:=aO1 n h (by omega);have e:Lib.bitLen (n-1)-1=b:=bCe (n:=n) (by show sp n<n;omega) (by show n<=2*sp n;omega) h1 h2;unfold gY;refine Eq.trans h3 ?_;unfold sp;rw[e]
theorem xX:∀(n N:Nat) (l:List (Arr 16)),l.length<=n->n<=60000->1000000+n<N->∃r,G_merkle_Root N l=some r/\G_ref03_Root N l=some r
 |_,0,l,_,_,h=>by omega
 |0,M+1,l,hl,_,hN=>by
  have h0:l.length=0:=by omega
  obtain⟨e1,e2⟩:=aZ9 (N:=M) (by omega);refine⟨emp M,?_,?_⟩
  ·show fB M (fun _=>G_merkle_Root M) l=_;unfold fB;rw[kC (by omega),aN,e1,aB]
  ·show fY M (fun _=>G_ref03_Root M) l=_;unfold fY;rw[kC (by omega),aN,e2,aB]
 |n+1,M+1,l,hl,hn,hN=>by
  by_cases h0:l.length=0
  ·obtain⟨e1,e2⟩:=aZ9 (N:=M) (by omega);refine⟨emp M,?_,?_⟩
   ·show fB M (fun _=>G_merkle_Root M) l=_;unfold fB;rw[kC (by omega),aN,e1,aB]
   ·show fY M (fun _=>G_ref03_Root M) l=_;unfold fY;rw[kC (by omega),aN,e2,aB]
  ·by_cases h1:l.length=1
   ·obtain⟨x,rfl⟩:=List.length_eq_one_iff.1 h1;exact⟨x,rfl,rfl⟩
   ·obtain⟨s1,s2,s3⟩:=aO1 l.length (by omega) (by omega);obtain⟨a,a1,a2⟩:=xX n M (l.take (sp l.length)) (by rw[bu];omega) (by omega) (by omega);obtain⟨b,b1,b2⟩:=xX n M (l.drop (sp l.length)) (by rw[aq];omega) (by omega) (by omega);obtain⟨n1,n2⟩:=uM (N:=M) (by omega) a b;have ed:(l.drop (sp l.length)).take (l.length-sp l.length)=l.drop (sp l.length):=bc (by rw[aq];exact ω _);refine⟨nd M a b,?_,?_⟩
    ·show fB M (fun _=>G_merkle_Root M) l=_;unfold fB;dsimp only;rw[fA (by omega),aK,fA (by omega),aK,uI M _ (by omega) (by omega),aB,π,π,aC (by omega),aC (by omega),aC (by omega),aC (by omega),aC rfl,cc,gu,a1,aB,aC (by omega),aC (by omega),aC (by omega),aC (by omega),aC (by omega),aC rfl,ed,b1,aB,n1,aB]
    ·show fY M (fun _=>G_ref03_Root M) l=_;unfold fY;dsimp only;rw[fA (by omega),aK,fA (by omega),aK,aBl M _ (by omega) (by omega) (by omega),aB,π,aC (by omega),aC (by omega),aC (by omega),cc,gu,a2,aB,aC (by omega),aC (by omega),aC (by omega),ed,b2,aB,n2,aB]
theorem aUv(N:Nat)(p:List (Arr 16))(d:Arr 16)(h:p.length<=1000000):mC N p d=some (p++[d]):=by unfold mC;rw[aC (by omega),aC rfl,aD,aC (by simp only[ξ,au];omega),aC rfl,aD]
theorem aTk:∀(n N:Nat) (l:List (Arr 16)) (i:Nat),i<l.length->l.length<=n->n<=60000->1000000+n<N->∃r,r.length<=n/\G_merkle_Inclusion_1 N l (i:Int) []=some r/\G_ref03_inclusion N l (i:Int)=some r
 |_,0,l,_,_,_,_,h=>by omega
 |0,M+1,l,i,hi,hl,_,hN=>by omega
 |n+1,M+1,l,i,hi,hl,hn,hN=>by
  by_cases h1:l.length=1
  ·refine⟨[],di _,?_,?_⟩
   ·show bO M (fun _=>G_merkle_Inclusion_1 M) l _ _=_;unfold bO;rw[kC (by omega),aN,aD]
   ·show cK M (fun _=>G_ref03_inclusion M) l _=_;unfold cK;rw[kC (by omega),aN]
  ·obtain⟨s1,s2,s3⟩:=aO1 l.length (by omega) (by omega);obtain⟨a,a1,a2⟩:=xX n M (l.take (sp l.length)) (by rw[bu];omega) (by omega) (by omega);obtain⟨b,b1,b2⟩:=xX n M (l.drop (sp l.length)) (by rw[aq];omega) (by omega) (by omega);have ed:(l.drop (sp l.length)).take (l.length-sp l.length)=l.drop (sp l.length):=bc (by rw[aq];exact ω _);by_cases hh:i<sp l.length
   ·obtain⟨r,r0,r1,r2⟩:=aTk n M (l.take (sp l.length)) i (by rw[bu];omega) (by rw[bu];omega) (by omega) (by omega);refine⟨r++[b],by simp only[κ,ξ,au];omega,?_,?_⟩
    ·show bO M (fun _=>G_merkle_Inclusion_1 M) l _ _=_;unfold bO;dsimp only;rw[fA (by omega),aK,uI M _ (by omega) (by omega),aB,aF (decide_eq_true (by omega)),π,aC (by omega),aC (by omega),aC (by omega),aC (by omega),aC rfl,aD,cc,gu,r1,aB,aC (by omega),aC (by omega),aC (by omega),ed,b1,aB,aD,aC (by simp only[ξ,au];omega),aD]
    ·show cK M (fun _=>G_ref03_inclusion M) l _=_;unfold cK;dsimp only;rw[fA (by omega),aK,aBl M _ (by omega) (by omega) (by omega),aB,aF (decide_eq_true (by omega)),π,aC (by omega),aC (by omega),aC (by omega),cc,gu,r2,aB,aC (by omega),aC (by omega),aC (by omega),ed,b2,aB,aUv M r b (by omega),aB,aD]
   ·obtain⟨r,r0,r1,r2⟩:=aTk n M (l.drop (sp l.length)) (i-sp l.length) (by rw[aq];omega) (by rw[aq];omega) (by omega) (by omega);have ei:(i:Int)-((sp l.length:Nat):Int)=((i-sp l.length:Nat):Int):=by omega
    refine⟨r++[a],by simp only[κ,ξ,au];omega,?_,?_⟩
    ·show bO M (fun _=>G_merkle_Inclusion_1 M) l _ _=_;unfold bO;dsimp only;rw[fA (by omega),aK,uI M _ (by omega) (by omega),aB,aE (decide_eq_false (by omega)),π,aC (by omega),aC (by omega),aC (by omega),ei,aM (by omega) (by omega),aD,ed,r1,aB,aC (by omega),aC (by omega),aC (by omega),aC (by omega),aC rfl,cc,gu,a1,aB,aD,aC (by simp only[ξ,au];omega),aD]
    ·show cK M (fun _=>G_ref03_inclusion M) l _=_;unfold cK;dsimp only;rw[fA (by omega),aK,aBl M _ (by omega) (by omega) (by omega),aB,aE (decide_eq_false (by omega)),π,aC (by omega),aC (by omega),aC (by omega),ei,aM (by omega) (by omega),ed,r2,aB,aC (by omega),aC (by omega),aC (by omega),cc,gu,a2,aB,aUv M r a (by omega),aB,aD]
theorem aP2(N:Nat)(b:Bool):dZ N [] b=some (Arr.zero 16,([],true)):=rfl
theorem bC4(N:Nat)(p:List (Arr 16))(b:Bool)(k:Nat)(h:p.length=k+1)(hk:k<=1000000):dZ N p b=some (p[k]'(by omega),(p.take k,b)):=by unfold dZ;rw[fA (by omega),aK,show(((p.length:Nat):Int)-1)=((k:Nat):Int) by omega,aM (by omega) (by omega),bJ (ε (by omega)),aM (by omega) (by omega),aM (by omega) (by omega),aC (by omega),aC (by omega),π,aC (by omega),aC (by omega),aC rfl,cc,gu]
theorem wM:∀(n N:Nat) (x:Arr 16) (i:Int) (m:Nat) (p:List (Arr 16)) (b:Bool),1<=m->m<=n->n<=60000->1000000+n<N->0<=i->i<=1000000->p.length<=1000000->
  ∃r p' b' r' ok,G_merkle_CheckInclusion_1 N i ((m:Nat):Int) x p b=some (r,(x,(p',b')))/\G_ref03_climb N x i ((m:Nat):Int) p=some (r',ok)/\(b=true->b'=true)/\(b=false->ok=(!b'&&(((p'.length:Nat):Int)==0)))/\(ok=true->r=r')
 |_,0,_,_,_,_,_,_,_,_,h,_,_,_=>by omega
 |0,M+1,_,_,_,_,_,h1,h2,_,_,_,_,_=>by omega
 |n+1,M+1,x,i,m,p,b,h1,hm,hn,hN,hi0,hi1,hp=>by
  by_cases e1:m=1
  ·refine⟨x,p,b,x,(((p.length:Nat):Int)==0),?_,?_,fun h=>h,fun h=>by rw[h];rfl,fun _=>rfl⟩
   ·show aO M (fun _=>G_merkle_CheckInclusion_1 M) i _ x p b=_;unfold aO;rw[kC (by omega),aN]
   ·show dD M (fun _=>G_ref03_climb M) x i _ p=_;unfold dD;rw[kC (by omega),aN]
  ·obtain⟨s1,s2,s3⟩:=aO1 m (by omega) (by omega);have em:((m:Nat):Int)-((sp m:Nat):Int)=((m-sp m:Nat):Int):=by omega
   rcases gk p.length with hz|hz
   ·obtain rfl:p=[]:=List.length_eq_zero_iff.1 hz;have e2:G_ref03_climb (M+1) x i ((m:Nat):Int) []=some (Arr.zero 16,false):=by show dD M (fun _=>G_ref03_climb M) x i _ []=_;unfold dD;rw[fA (by omega),aK];rfl
    by_cases hc:i<((sp m:Nat):Int)
    ·obtain⟨r,p',b',_,_,a1,_,a3,_,_⟩:=wM n M x i (sp m) [] true (by omega) (by omega) (by omega) (by omega) hi0 hi1 hp;refine⟨nd M r (Arr.zero 16),p',b',Arr.zero 16,false,?_,e2,fun _=>a3 rfl,fun _=>by rw[a3 rfl];rfl,fun h=>by cases h⟩;show aO M (fun _=>G_merkle_CheckInclusion_1 M) i _ x [] b=_;unfold aO;dsimp only;rw[fA (by omega),aK,uI M m (by omega) (by omega),aB,aP2,aB];dsimp only;rw[aF (decide_eq_true hc),a1,aB];dsimp only;rw[aC rfl,(uM (by omega) _ _).1,aB,aC rfl]
    ·obtain⟨r,p',b',_,_,a1,_,a3,_,_⟩:=wM n M x (i-((sp m:Nat):Int)) (m-sp m) [] true (by omega) (by omega) (by omega) (by omega) (by omega) (by omega) hp;refine⟨nd M (Arr.zero 16) r,p',b',Arr.zero 16,false,?_,e2,fun _=>a3 rfl,fun _=>by rw[a3 rfl];rfl,fun h=>by cases h⟩;show aO M (fun _=>G_merkle_CheckInclusion_1 M) i _ x [] b=_;unfold aO;dsimp only;rw[fA (by omega),aK,uI M m (by omega) (by omega),aB,aP2,aB];dsimp only;rw[aE (decide_eq_false hc),aM (by omega) (by omega),aM (by omega) (by omega),em,a1,aB];dsimp only;rw[aC rfl,(uM (by omega) _ _).1,aB,aC rfl]
   ·obtain⟨k,hk⟩:∃k,p.length=k+1:=⟨p.length-1,by omega⟩;have ek:((p.length:Nat):Int)-1=((k:Nat):Int):=by omega
    have hl:=bC4 M p b k hk (by omega);have ht:(p.take k).length<=1000000:=by rw[bu];omega
    by_cases hc:i<((sp m:Nat):Int)
    ·obtain⟨r,p',b',r',ok,a1,a2,a3,a4,a5⟩:=wM n M x i (sp m) (p.take k) b (by omega) (by omega) (by omega) (by omega) hi0 hi1 ht;refine⟨nd M r (p[k]'(by omega)),p',b',nd M r' (p[k]'(by omega)),ok,?_,?_,a3,a4,fun h=>by rw[a5 h]⟩
     ·show aO M (fun _=>G_merkle_CheckInclusion_1 M) i _ x p b=_;unfold aO;dsimp only;rw[fA (by omega),aK,uI M m (by omega) (by omega),aB,hl,aB];dsimp only;rw[aF (decide_eq_true hc),a1,aB];dsimp only;rw[aC rfl,(uM (by omega) _ _).1,aB,aC rfl]
     ·show dD M (fun _=>G_ref03_climb M) x i _ p=_;unfold dD;dsimp only;rw[fA (by omega),aK,fA (by omega),aK,aBl M m (by omega) (by omega) (by omega),aB,ek,aM (by omega) (by omega),bJ (ε (by omega)),aM (by omega) (by omega),aC (by omega),π,aC (by omega),aC (by omega),aF (decide_eq_true hc),cc,gu,a2,aB];dsimp only;rw[(uM (by omega) _ _).2,aB]
    ·obtain⟨r,p',b',r',ok,a1,a2,a3,a4,a5⟩:=wM n M x (i-((sp m:Nat):Int)) (m-sp m) (p.take k) b (by omega) (by omega) (by omega) (by omega) (by omega) (by omega) ht;refine⟨nd M (p[k]'(by omega)) r,p',b',nd M (p[k]'(by omega)) r',ok,?_,?_,a3,a4,fun h=>by rw[a5 h]⟩
     ·show aO M (fun _=>G_merkle_CheckInclusion_1 M) i _ x p b=_;unfold aO;dsimp only;rw[fA (by omega),aK,uI M m (by omega) (by omega),aB,hl,aB];dsimp only;rw[aE (decide_eq_false hc),aM (by omega) (by omega),aM (by omega) (by omega),em,a1,aB];dsimp only;rw[aC rfl,(uM (by omega) _ _).1,aB,aC rfl]
     ·show dD M (fun _=>G_ref03_climb M) x i _ p=_;unfold dD;dsimp only;rw[fA (by omega),aK,fA (by omega),aK,aBl M m (by omega) (by omega) (by omega),aB,ek,aM (by omega) (by omega),bJ (ε (by omega)),aM (by omega) (by omega),aC (by omega),π,aC (by omega),aC (by omega),aE (decide_eq_false hc),aM (by omega) (by omega),aM (by omega) (by omega),em,cc,gu,a2,aB];dsimp only;rw[(uM (by omega) _ _).2,aB]
theorem pV(l:List (Arr 16))(i:Int)(hl:l.length<=60000)(hN:1100000<=N):∃v e,cZ N l i=some (e,v)/\bX N l i=some (v,e)/\v.length<=l.length:=by
 unfold cZ bX;by_cases h1:i<0
 ·rw[aF (decide_eq_true h1),aF (decide_eq_true h1),aB,aB];exact⟨[],1,rfl,rfl,di _⟩
 ·rw[aE (decide_eq_false h1),aE (decide_eq_false h1),aB,aB,aB];dsimp only;by_cases h2:i≥((l.length:Nat):Int)
  ·rw[aF (decide_eq_true h2),aF (decide_eq_true h2)];exact⟨[],1,rfl,rfl,di _⟩
  ·rw[aE (decide_eq_false h2),aE (decide_eq_false h2)];obtain⟨j,rfl⟩:∃j:Nat,i=(j:Int):=⟨i.toNat,by omega⟩;obtain⟨v,v0,v1,v2⟩:=aTk l.length N l j (by omega) (ω _) hl (by omega);rw[v2,aB];refine⟨v,0,?_,rfl,v0⟩;have e:gl? ([]:List (Arr 16)).length ([]:List (Arr 16)) (bd? (G_merkle_Inclusion_1 N l (j:Int) []) fun v5=>gl? v5.length v5 (some ((0:Int),v5)))=some (0,v):=by rw[aD,v1,aB,aD]
   exact e
theorem nM(x:Arr 16)(i n:Int)(p:List (Arr 16))(r:Arr 16)(hn:n<=60000)(hp:p.length<=1000000)(hN:1100000<=N):∃b,aY N x i n p r=some b/\bA N x i n p r=some b:=by
 unfold aY bA;by_cases h1:n<1
 ·rw[aF (decide_eq_true h1),aF (decide_eq_true h1)];exact⟨false,rfl,rfl⟩
 ·rw[aE (decide_eq_false h1),aE (decide_eq_false h1),aE (c:=decide (n>1099511627776)) (decide_eq_false (by omega)),aE (c:=decide (n>1099511627776)) (decide_eq_false (by omega))];by_cases h2:i<0
  ·rw[aF (decide_eq_true h2),aF (decide_eq_true h2)];exact⟨false,rfl,rfl⟩
  ·rw[aE (decide_eq_false h2),aE (decide_eq_false h2),aB,aB];dsimp only;by_cases h3:i≥n
   ·rw[aF (decide_eq_true h3),aF (decide_eq_true h3)];exact⟨false,rfl,rfl⟩
   ·rw[aE (decide_eq_false h3),aE (decide_eq_false h3)];obtain⟨m,rfl⟩:∃m:Nat,n=(m:Int):=⟨n.toNat,by omega⟩;obtain⟨a,p',b',a',ok,c1,c2,_,c4,c5⟩:=wM m N x i m p false (by omega) (ω _) (by omega) (by omega) (by omega) (by omega) hp;rw[c1,c2,aB,aB];dsimp only;rw[aC rfl];have c4:=c4 rfl;unfold gG;cases ok with
    |false=>
     refine⟨false,?_,rfl⟩;cases a.l==r.l with
     |false=>rfl
     |true=>
      cases b' with
      |true=>rfl
      |false=>
       rw[fy,Bool.true_and]at c4;rw[aN,fy,aN,<-c4];rfl
    |true=>
     obtain rfl:=c5 rfl;refine⟨a.l==r.l,?_,rfl⟩;cases b' with
     |true=>cases c4
     |false=>
      rw[fy,Bool.true_and]at c4;rw[<-c4];cases a.l==r.l<;>rfl
theorem bMk(m:Nat):nR (m+1)=mA (nR m):=rfl
theorem aLe(d:Arr 16):∀(k i m:Nat),i+k=16->k<m->nR m (i:Int) d (d.l.take i)=some (bI d.l)
 |k,i,0,_,h=>by omega
 |0,i,m+1,hi,_=>by
  have hd:=d.len;rw[bMk];unfold mA;rw[aE (decide_eq_false (by omega)),aD,bc (by omega)]
 |k+1,i,m+1,hi,hm=>by
  have hd:=d.len;have hlt:i<d.l.length:=by omega
  have ht:(d.l.take i).length=i:=by rw[bu];omega
  rw[bMk];unfold mA;rw[aF (decide_eq_true (by omega)),aC (by omega),aC (by omega),π,aPm (ε hlt),aD,aC (by rw[ht];simp only[ξ,au];omega),aM (by omega) (by omega),aD,show(i:Int)+1=((i+1:Nat):Int) by omega,<-ij hlt];exact aLe d k (i+1) m (by omega) (by omega)
theorem aOn(hN:1000000<=N){g y n:Int}(hg:I64 g)(hy:I64 y)(hn:I64 n)(d:Arr 16):∃s,jA N g y n d=some s/\gB N g y n d=some s:=by
 obtain⟨s,h1,h2⟩:=aUy hN 186 [uvI g,uvI y,uvI n,bI d.l] (by simp only[ξ,au];omega) (fun x hx=>by
  simp only[bw,dm,or_false]at hx;rcases hx with rfl|rfl|rfl|rfl
  ·have:=cM hg;omega
  ·have:=cM hy;omega
  ·have:=cM hn;omega
  ·rw[qU,d.len];omega)
 refine⟨s,?_,?_⟩
 ·unfold jA;rw[aAe (by omega) hg,aB,aD,aAe (by omega) hy,aB,aD,aAe (by omega) hn,aB,aD,cR,cR,cR,h1,aB]
 ·unfold gB;have ht:uJ N d=some (bI d.l):=aLe d 16 0 N rfl (by omega);rw[yE (by omega) hg,aB,yE (by omega) hy,aB,yE (by omega) hn,aB,ht,aB,h2,aB]
def lvs(N:Nat)(l:List Str):List (Arr 16):=l.map (lf N)
theorem yC{l:List Str}:(lvs N l).length=l.length:=μ _
theorem bL6(N m:Nat):oR N (m+1)=oE N (oR N m):=rfl
theorem bLp(N m:Nat):jN N (m+1)=jK N (jN N m):=rfl
theorem aO0{l:List Str}(h:i<l.length):lvs N (l.take (i+1))=lvs N (l.take i)++[lf N l[i]]:=by unfold lvs;rw[ij h,bn];rfl
theorem aKw{N:Nat}(hN:1000000<=N)(l:List Str)(hp:∀x∈l,x.length<=1000)(hl:l.length<=1000)(r:Arr 16)(hr:G_merkle_Root N (lvs N l)=some r)(z:Arr 16):∀(k i m:Nat),i+k=l.length->k<m->oR N m l ((l.length:Nat):Int) (i:Int) z (lvs N (l.take i)++bg k (Arr.zero 16))=some (r,lvs N l)
 |k,i,0,_,h=>by omega
 |0,i,m+1,hi,_=>by
  rw[bL6];unfold oE;rw[aE (decide_eq_false (by omega)),bc (by omega),iu,χ,aD,hr,aB,aD]
 |k+1,i,m+1,hi,hm=>by
  have hlt:i<l.length:=by omega
  have hb:=hp _ (da hlt);have e0:(lvs N (l.take i)).length=i:=by rw[yC,bu];omega
  have e1:(lvs N (l.take i)++bg (k+1) (Arr.zero 16)).length=l.length:=by rw[κ,e0,jb];omega
  have e2:List.set (lvs N (l.take i)++bg (k+1) (Arr.zero 16)) i (lf N l[i])=lvs N (l.take (i+1))++bg k (Arr.zero 16):=by rw[List.set_append_right _ _ (by omega),e0,Nat.sub_self,iv,List.set_cons_zero,aO0 hlt,υ];rfl
  rw[bL6];unfold oE;rw[aF (decide_eq_true (by omega)),bJ (ε hlt),(aHm hN _ (by omega)).1,aB,aC (by omega),aC (by rw[e1];omega),π,
   aPm (ε (by rw[e1];exact hlt)),aM (by omega) (by omega),bGp (by rw[List.length_set]),e2,show(i:Int)+1=((i+1:Nat):Int) by omega]
  exact aKw hN l hp hl r hr z k (i+1) m (by omega) (by omega)
theorem aEl{N:Nat}(hN:1000000<=N)(l:List Str)(hp:∀x∈l,x.length<=1000)(hl:l.length<=1000):∀(k i m:Nat),i+k=l.length->k<m->jN N m l (i:Int) (lvs N (l.take i))=some (lvs N l)
 |k,i,0,_,h=>by omega
 |0,i,m+1,hi,_=>by
  rw[bLp];unfold jK;rw[aE (decide_eq_false (by omega)),bc (by omega),aD]
 |k+1,i,m+1,hi,hm=>by
  have hlt:i<l.length:=by omega
  have hb:=hp _ (da hlt);have e0:(lvs N (l.take i)).length=i:=by rw[yC,bu];omega
  rw[bLp];unfold jK;rw[aF (decide_eq_true (by omega)),bJ (ε hlt),(aHm hN _ (by omega)).2,aB,aD,aC (by rw[e0];simp only[ξ,au];omega),aM (by omega) (by omega),aD,show(i:Int)+1=((i+1:Nat):Int) by omega,<-aO0 hlt];exact aEl hN l hp hl k (i+1) m (by omega) (by omega)
theorem aMi(hN:1100000<=N)(l:List Str)(hp:∀x∈l,x.length<=1000)(hl:l.length<=1000):∃r,lR N l=some (r,lvs N l)/\jC N l=some (lvs N l)/\G_ref03_Root N (lvs N l)=some r:=by obtain⟨r,h1,h2⟩:=xX 1000 N (lvs N l) (by rw[yC];exact hl) (by omega) (by omega);refine⟨r,?_,aEl (by omega) l hp hl l.length 0 N (by omega) (by omega),h2⟩;unfold lR;rw[aC (by omega),aC (by omega),π,aC (by omega),aC (by omega),bGp jb.symm];exact aKw (by omega) l hp hl r h1 _ l.length 0 N (by omega) (by omega)
structure Gf (f:Fo):Prop where
 g0:0<=f.1
 g1:f.1<40
 y0:2000<=f.2.1
 y1:f.2.1<2040
 n:f.2.2.length<=1000
 c:ckl f.1 f.2.1 none f.2.2=0
theorem bAz{f:Fo}(h:chk f=0):Gf f:=by
 unfold chk at h;split at h
 ·cases h
 ·split at h
  ·cases h
  ·exact⟨by omega,by omega,by omega,by omega,by omega,h⟩
theorem aSc{n:Int}(h:-9223372036854775808<=n)(h':n<=9223372036854775807):I64 n:=⟨h,h'⟩
theorem bH6{n:Int}(h:n=0):(n !=0)=false:=by rw[h];rfl
theorem bIn{n:Int}(h:n≠0):(n !=0)=true:=by rw[bne_iff_ne];exact h
theorem bDv(hN:1100000<=N)(f:Fo)(hp:∀x∈f.2.2,x.length<=1000):∃v,oZ N f=some v/\qB N f=some v:=by
 have c1:bT N (f.1,(f.2.1,f.2.2))=some (chk f):=aB7 (by omega) f hp;have c2:cI N (f.1,(f.2.1,f.2.2))=some (chk f):=aNo (by omega) f hp;unfold oZ qB;rw[c1,c2,aB,aB];by_cases h:chk f=0
 ·have g:=bAz h;have n:=g.n;have g0:=g.g0;have g1:=g.g1;have y0:=g.y0;have y1:=g.y1;obtain⟨r,t1,t2,t3⟩:=aMi hN f.2.2 hp n;obtain⟨s,s1,s2⟩:=aOn (N:=N) (by omega) (aSc (n:=f.1) (by omega) (by omega)) (aSc (n:=f.2.1) (by omega) (by omega)) (aSc (n:=((f.2.2.length:Nat):Int)) (by omega) (by omega)) r;rw[bH6 h,aK,aK,t1,t2,aB,aB,aD,t3,aB];dsimp only;rw[s1,s2,aB];exact⟨_,rfl,rfl⟩
 ·rw[bIn h,aN,aN];exact⟨_,rfl,rfl⟩
theorem aIp:∀x:Str,Op.bytesLess x x=false
 |[]=>rfl
 |a::x=>by rw[Op.bytesLess,aIp x];simp
theorem tR:∀x y z:Str,Op.bytesLess x y=true->Op.bytesLess y z=true->Op.bytesLess x z=true
 |x,[],_,h,_=>by cases x<;>exact absurd h (by simp[Op.bytesLess])
 |_,_::_,[],_,h=>by cases h
 |[],_::_,_::_,_,_=>rfl
 |a::x,b::y,c::z,h1,h2=>by
  simp only[Op.bytesLess,fa,decide_eq_true_eq,ν,beq_iff_eq]at h1 h2|-;rcases h1 with h1|⟨rfl,h1⟩<;>rcases h2 with h2|⟨rfl,h2⟩
  ·exact .inl (UInt8.lt_trans h1 h2)
  ·exact .inl h1
  ·exact .inl h2
  ·exact .inr ⟨rfl,tR x y z h1 h2⟩
theorem aSv:∀x y:Str,Op.bytesLess x y=false->x≠y->Op.bytesLess y x=true
 |[],[],_,h=>absurd rfl h
 |[],_::_,h,_=>by cases h
 |_::_,[],_,_=>rfl
 |a::x,b::y,h1,h2=>by
  simp only[Op.bytesLess,im,decide_eq_false_iff_not,Bool.and_eq_false_iff,beq_eq_false_iff_ne]at h1;simp only[Op.bytesLess,fa,decide_eq_true_eq,ν,beq_iff_eq];obtain⟨h1,h3⟩:=h1;by_cases e:a=b
  ·subst e;refine .inr ⟨rfl,aSv x y (h3.elim (fun h=>absurd rfl h) id) fun h=>h2 (by rw[h])⟩
  ·refine .inl ?_;rw[UInt8.lt_iff_toNat_lt]at h1|-;have:a.toNat≠b.toNat:=fun h=>e (UInt8.toNat_inj.1 h);omega
def Srt(l:List Str):Prop:=∀i j:Nat,i<j->∀(hi:i<l.length) (hj:j<l.length),Op.bytesLess l[i] l[j]=true
theorem bI8{l:List Str}(h:∀j,∀hj:j+1<l.length,Op.bytesLess (l[j]'(by omega)) l[j+1]=true):Srt l:=by
 intro i j hij;obtain⟨d,rfl⟩:∃d,j=i+1+d:=⟨j-(i+1),by omega⟩;clear hij
 induction d with
 |zero=>intro hi hj;exact h i hj
 |succ d ih=>intro hi hj;exact tR _ _ _ (ih hi (by omega)) (h (i+1+d) hj)
theorem aUq{g y:Int}:∀(l:List Str) (p:Option Str),ckl g y p l=0->(∀x∈l,hr x g y=true)/\∀j,∀hj:j+1<l.length,Op.bytesLess (l[j]'(by omega)) l[j+1]=true
 |[],_,_=>⟨fun x hx=>(dm hx).elim,fun j hj=>absurd hj (Nat.not_lt_zero _)⟩
 |x::r,p,h=>by
  unfold ckl at h;split at h
  ·cases h
  ·rename_i hb;obtain⟨i1,i2⟩:=aUq r (some x) h;refine⟨fun q hq=>?_,fun j hj=>?_⟩
   ·rcases bw.1 hq with rfl|hq
    ·cases hh:hr q g y with
     |true=>rfl
     |false=>exact absurd (by unfold bad;cases p<;>simp[hh]) hb
    ·exact i1 q hq
   ·cases j with
    |succ j=>exact i2 j (by simpa using hj)
    |zero=>
     cases r with
     |nil=>simp at hj
     |cons z r=>
      unfold ckl at h;split at h
      ·cases h
      ·rename_i hb2;unfold bad at hb2;rw[Bool.not_eq_true,im,im,beq_eq_false_iff_ne]at hb2;exact aSv _ _ hb2.2.1 hb2.2.2
theorem bD0(N:Nat)(x y:Str):iF N x y=some (Op.bytesLess x y):=by unfold iF gC;rw[beq_self_eq_true];rfl
theorem bD7(a b:Nat)(h:a+b<=1000000):δ .i64 ((δ .u64 ((a:Int)+(b:Int)))/2^1)=(((a+b)/2:Nat):Int):=by rw[show(a:Int)+(b:Int)=((a+b:Nat):Int) by omega,w64 (by omega) (by omega),show(((a+b:Nat):Int))/2^1=(((a+b)/2:Nat):Int) by omega,vE (by omega) (by omega)]
def aYj(l:List Str)(t:Str)(k:Nat)(b:Bool):Prop:=
 k<=l.length/\(∀i,i<k->∀hi:i<l.length,Op.bytesLess l[i] t=true)/\(b=true->∃h:k<l.length,l[k]=t)/\(b=false->(∀h:k<l.length,Op.bytesLess t l[k]=true)/\t∉l)
theorem bN8(N m:Nat):bD N (m+1)=bQ N (bD N m):=rfl
theorem bBu(N:Nat)(l:List Str)(t:Str)(hb:l.length<=100000)(hs:Srt l):∀(k m a b:Nat),b-a<=k->k<m->a<=b->b<=l.length->(∀i,i<a->∀hi:i<l.length,Op.bytesLess l[i] t=true)->(∀i,b<=i->∀hi:i<l.length,Op.bytesLess l[i] t=false)->
  ∃(p:Nat) (f:Bool),bD N m l t ((l.length:Nat):Int) (a:Int) (b:Int)=some ((p:Int),f)/\aYj l t p f
 |k,0,a,b,_,h,_,_,_,_=>by omega
 |k,m+1,a,b,hk,hm,hab,hbl,h1,h2=>by
  rw[bN8];unfold bQ;by_cases hc:a<b
  ·have hh:(a+b)/2<l.length:=by omega
   rw[aF (decide_eq_true (by omega)),bD7 a b (by omega),aM (by omega) (by omega),bJ (ε hh),bD0,aB];cases hl:Op.bytesLess l[(a+b)/2] t with
   |true=>
    rw[aN,aM (by omega) (by omega),show(((a+b)/2:Nat):Int)+1=(((a+b)/2+1:Nat):Int) by omega];refine bBu N l t hb hs (k-1) m ((a+b)/2+1) b (by omega) (by omega) (by omega) hbl (fun i hi hi'=>?_) h2;rcases c6 i ((a+b)/2)with h|h
    ·exact tR _ _ _ (hs i _ h hi' hh) hl
    ·have e:i=(a+b)/2:=by omega
     subst e;exact hl
   |false=>
    rw[aK];refine bBu N l t hb hs (k-1) m a ((a+b)/2) (by omega) (by omega) (by omega) (by omega) h1 (fun i hi hi'=>?_);rcases c6 ((a+b)/2) i with h|h
    ·cases hq:Op.bytesLess l[i] t with
     |false=>rfl
     |true=>rw[tR _ _ _ (hs _ i h hh hi') hq]at hl;cases hl
    ·have e:i=(a+b)/2:=by omega
     subst e;exact hl
  ·obtain rfl:a=b:=by omega
   rw[aE (decide_eq_false (by omega))];have hnot:∀(h:a<l.length),l[a]≠t->t∉l:=fun h hne hm=>by
    obtain⟨i,hi,rfl⟩:=List.getElem_of_mem hm;rcases ft i a with h'|h'|h'
    ·have:=h1 i h' hi;rw[aIp]at this;cases this
    ·subst h';exact hne rfl
    ·have:=h2 a (ω _) h;rw[hs a i h' h hi]at this;cases this
   by_cases hl:a<l.length
   ·rw[aF (decide_eq_true (by omega)),bJ (ε hl)];by_cases he:l[a]=t
    ·rw[show(l[a]==t)=true by rw[beq_iff_eq];exact he,aN,aB];exact⟨a,true,rfl,by omega,h1,fun _=>⟨hl,he⟩,fun h=>by cases h⟩
    ·rw[show(l[a]==t)=false by rw[beq_eq_false_iff_ne];exact he,aK,bJ (ε hl)];unfold eE;rw[beq_self_eq_true,aB,c8,aK,aB];exact⟨a,false,rfl,by omega,h1,fun h=>ct h,fun _=>⟨fun h=>aSv _ _ (h2 a (ω _) h) he,hnot hl he⟩⟩
   ·rw[aE (decide_eq_false (by omega)),aB];refine⟨a,false,rfl,by omega,h1,fun h=>ct h,fun _=>⟨fun h=>absurd h hl,fun hm=>?_⟩⟩;obtain⟨i,hi,rfl⟩:=List.getElem_of_mem hm;have:=h1 i (by omega) hi;rw[aIp]at this;cases this
theorem bF9(N:Nat)(l:List Str)(t:Str)(hN:l.length<N)(hb:l.length<=100000)(hs:Srt l):∃(p:Nat) (f:Bool),bK N l t=some ((p:Int),f)/\aYj l t p f:=
 bBu N l t hb hs l.length N 0 l.length (by omega) hN (by omega) (ω _) (fun i h=>by omega) (fun i h h'=>by omega)
abbrev Prf:=Int×(Int×(Arr 16×List (Arr 16)))
abbrev Abs:=Int×(Int×(Arr 16×(Str×(Str×(List (Arr 16)×List (Arr 16))))))
theorem bE3(N m:Nat):gI N (m+1)=eH N (gI N m):=rfl
theorem bF2{N:Nat}(l:List Str)(s:Str)(hs:s∉l)(hl:l.length<=1000)(g y:Int)(L:List (Arr 16)):∀(k i m:Nat),i+k=l.length->k<m->gI N m s (i:Int) g y l 0 0 (Arr.zero 16) 0 L []=some ((0,(0,(Arr.zero 16,[]))),8)
 |k,i,0,_,h=>by omega
 |0,i,m+1,hi,_=>by
  rw[bE3];unfold eH;rw[aE (decide_eq_false (by omega))]
 |k+1,i,m+1,hi,hm=>by
  have hlt:i<l.length:=by omega
  have hne:l[i]≠s:=fun h=>hs (h▸da hlt);rw[bE3];unfold eH;rw[aF (decide_eq_true (by omega)),bJ (ε hlt),show(l[i]==s)=false by rw[beq_eq_false_iff_ne];exact hne,aK,aM (by omega) (by omega),aD,aD,show(i:Int)+1=((i+1:Nat):Int) by omega];exact bF2 l s hs hl g y L k (i+1) m (by omega) (by omega)
theorem bCb{N:Nat}(l:List Str)(s:Str)(p:Nat)(hp:p<l.length)(hps:l[p]=s)(hf:∀j,j<p->∀hj:j<l.length,l[j]≠s)(hl:l.length<=1000)(g y:Int)(L:List (Arr 16))(r:Arr 16)(hr:G_ref03_Root N L=some r)(v:List (Arr 16))(e:Int)(hv:bX N L (p:Int)=some (v,e)):∀(k i m:Nat),i+k=p->k<m->gI N m s (i:Int) g y l 0 0 (Arr.zero 16) 0 L []=some (((p:Int),(((L.length:Nat):Int),(r,v))),0)
 |k,i,0,_,h=>by omega
 |0,i,m+1,hi,_=>by
  obtain rfl:i=p:=by omega
  rw[bE3];unfold eH;rw[aF (decide_eq_true (by omega)),bJ (ε hp),show(l[i]==s)=true by rw[beq_iff_eq];exact hps,aN,aD,hr,aB,aD,hv,aB]
 |k+1,i,m+1,hi,hm=>by
  have hlt:i<l.length:=by omega
  rw[bE3];unfold eH;rw[aF (decide_eq_true (by omega)),bJ (ε hlt),show(l[i]==s)=false by rw[beq_eq_false_iff_ne];exact hf i (by omega) hlt,aK,aM (by omega) (by omega),aD,aD,show(i:Int)+1=((i+1:Nat):Int) by omega];exact bCb l s p hp hps hf hl g y L r hr v e hv k (i+1) m (by omega) (by omega)
theorem Gf.srt{f:Fo}(h:Gf f):Srt f.2.2:=bI8 (aUq f.2.2 none h.c).2
theorem aGp{x s:Str}(h:Op.bytesLess x s=true):x≠s:=fun e=>by rw[e,aIp]at h;cases h
theorem bA3(hN:1100000<=N)(f:Fo)(hp:∀x∈f.2.2,x.length<=1000)(s:Str):∃(p:Prf) (e:Int),jO N f s=some (p.1,(p.2.1,(p.2.2.1,(p.2.2.2,e))))/\oB N f s=some (p,e)/\p.2.2.2.length<=1000:=by
 have c1:bT N (f.1,(f.2.1,f.2.2))=some (chk f):=aB7 (by omega) f hp;have c2:cI N (f.1,(f.2.1,f.2.2))=some (chk f):=aNo (by omega) f hp;unfold jO oB;rw[c1,c2,aB,aB];by_cases h:chk f=0
 ·have g:=bAz h;have n:=g.n;obtain⟨r,t1,t2,t3⟩:=aMi hN f.2.2 hp n;obtain⟨p,b,b1,b2⟩:=bF9 N f.2.2 s (by omega) (by omega) g.srt;rw[bH6 h,aK,aK,b1,aB,t2,aB,aD];cases b with
  |false=>
   rw[fy,aN];exact⟨(0,(0,(Arr.zero 16,[]))),8,rfl,bF2 f.2.2 s (b2.2.2.2 rfl).2 n _ _ _ f.2.2.length 0 N (by omega) (by omega),di _⟩
  |true=>
   obtain⟨h1,h2⟩:=b2.2.2.1 rfl;obtain⟨v,e,i1,i2,i3⟩:=pV (N:=N) (lvs N f.2.2) (p:Int) (by rw[yC];omega) (by omega);rw[c8,aK,t1,aB];dsimp only;rw[aD,i1,aB];dsimp only;rw[aD];rw[yC]at i3;exact⟨((p:Int),((((lvs N f.2.2).length:Nat):Int),(r,v))),0,rfl,bCb f.2.2 s p h1 h2 (fun j hj hj'=>aGp (b2.2.1 j hj hj')) n _ _ _ r t3 v e i2 p 0 N (by omega) (by omega),by show v.length<=1000;omega⟩
 ·rw[bIn h,aN,aN];exact⟨(0,(0,(Arr.zero 16,[]))),chk f,rfl,rfl,di _⟩
theorem bAt(N m:Nat):iY N (m+1)=fK N (iY N m):=rfl
abbrev rdL(N m:Nat)(s:Str)(i:Int)(g y:Int)(l:List Str)(L:List (Arr 16))(a:Int)(r:Arr 16):=iY N m s i g y l 0 0 (Arr.zero 16) [] [] 0 L a ((L.length:Nat):Int) r [] [] [] [] [] []
theorem aVz(l:List Str)(s:Str)(hl:l.length<=1000)(g y:Int)(L:List (Arr 16))(r:Arr 16)(i m:Nat)(hi:i<l.length)(hne:l[i]≠s)(a:Int):rdL N (m+1) s (i:Int) g y l L a r=rdL N m s ((i+1:Nat):Int) g y l L (if Op.bytesLess l[i] s=true then((i+1:Nat):Int)else a) r:=by
 unfold rdL;rw[bAt];unfold fK;have e1:(i:Int)+1=((i+1:Nat):Int):=by omega
 rw[aF (decide_eq_true (by omega)),bJ (ε hi),show(l[i]==s)=false by rw[beq_eq_false_iff_ne];exact hne,aK,bJ (ε hi)];cases Op.bytesLess l[i] s with
 |true=>
  rw[aN,aM (by omega) (by omega),aD,aD,aD,aD,aD,aEr];dsimp only;rw[aM (by omega) (by omega),aD,aD,aD,aD,aD,e1,if_pos rfl]
 |false=>
  rw[aK,aD,aD,aD,aD,aD,aEr];dsimp only;rw[aM (by omega) (by omega),aD,aD,aD,aD,aD,e1,if_neg (by decide)]
theorem aZm{N:Nat}(l:List Str)(s:Str)(p:Nat)(hp:p<l.length)(hps:l[p]=s)(hf:∀j,j<p->∀hj:j<l.length,l[j]≠s)(hl:l.length<=1000)(g y:Int)(L:List (Arr 16))(r:Arr 16):∀(k i m:Nat) (a:Int),i+k=p->k<m->rdL N m s (i:Int) g y l L a r=some ((0,(0,(Arr.zero 16,([],([],([],[])))))),9)
 |k,i,0,_,_,h=>by omega
 |0,i,m+1,a,hi,_=>by
  obtain rfl:i=p:=by omega
  unfold rdL;rw[bAt];unfold fK;rw[aF (decide_eq_true (by omega)),bJ (ε hp),show(l[i]==s)=true by rw[beq_iff_eq];exact hps,aN,pM,yR]
 |k+1,i,m+1,a,hi,hm=>by
  have hlt:i<l.length:=by omega
  rw[aVz l s hl g y L r i m hlt (hf i (by omega) hlt) a];exact aZm l s p hp hps hf hl g y L r k (i+1) m _ (by omega) (by omega)
theorem bDr{x y:Str}(h:Op.bytesLess x y=true):Op.bytesLess y x=false:=by
 cases h':Op.bytesLess y x with
 |false=>rfl
 |true=>have:=tR _ _ _ h h';rw[aIp]at this;cases this
theorem bGo{N:Nat}(l:List Str)(s:Str)(p:Nat)(hp:aYj l s p false)(hs:Srt l)(hl:l.length<=1000)(g y:Int)(L:List (Arr 16))(r:Arr 16):∀(k i m:Nat),i+k=l.length->k<m->rdL N m s (i:Int) g y l L ((min i p:Nat):Int) r=rdL N (0+1) s ((l.length:Nat):Int) g y l L (p:Int) r
 |k,i,0,_,h=>by omega
 |0,i,m+1,hi,_=>by
  obtain rfl:i=l.length:=by omega
  rw[Nat.min_eq_right hp.1];unfold rdL;rw[bAt,bAt];unfold fK;have hd:decide (((l.length:Nat):Int)<((l.length:Nat):Int))=false:=decide_eq_false (by omega);rw[aE hd,aE hd]
 |k+1,i,m+1,hi,hm=>by
  have hlt:i<l.length:=by omega
  obtain⟨_,f1,_,f2⟩:=hp;obtain⟨f2,f3⟩:=f2 rfl;rw[aVz l s hl g y L r i m hlt (fun e=>f3 (e▸da hlt))];have ea:(if Op.bytesLess l[i] s=true then((i+1:Nat):Int)else((min i p:Nat):Int))=((min (i+1) p:Nat):Int):=by
   rcases c6 i p with h|h
   ·rw[if_pos (f1 i h hlt),Nat.min_eq_left (by omega)]
   ·have hf:Op.bytesLess l[i] s=false:=by
     refine bDr ?_;rcases c6 p i with h'|h'
     ·exact tR _ _ _ (f2 (by omega)) (hs p i h' (by omega) hlt)
     ·obtain rfl:i=p:=by omega
      exact f2 hlt
    rw[hf,if_neg (by decide),Nat.min_eq_right h,Nat.min_eq_right (by omega)]
  rw[ea];exact bGo l s p ⟨‹_›,f1,‹_›,fun _=>⟨f2,f3⟩⟩ hs hl g y L r k (i+1) m (by omega) (by omega)
theorem bDw(hN:1100000<=N)(f:Fo)(hp:∀x∈f.2.2,x.length<=1000)(s:Str)(hs:s.length<=1000):∃(a:Abs) (e:Int),lS N f s=some (a.1,(a.2.1,(a.2.2.1,(a.2.2.2.1,(a.2.2.2.2.1,(a.2.2.2.2.2.1,(a.2.2.2.2.2.2,e)))))))/\pZ N f s=some (a,e)/\a.2.2.2.2.2.1.length<=1000/\a.2.2.2.2.2.2.length<=1000:=by
 have c1:bT N (f.1,(f.2.1,f.2.2))=some (chk f):=aB7 (by omega) f hp;have c2:cI N (f.1,(f.2.1,f.2.2))=some (chk f):=aNo (by omega) f hp;unfold lS pZ;rw[c1,c2,aB,aB];by_cases h:chk f=0
 ·have g:=bAz h;have n:=g.n;obtain⟨r,t1,t2,t3⟩:=aMi hN f.2.2 hp n;rw[bH6 h,aK,aK,xY s _ _ (by omega) hs,aP1 s _ _ (by omega) hs,aB,aB];cases hr s f.1 f.2.1 with
  |false=>
   rw[fy,aN,aN];exact⟨(0,(0,(Arr.zero 16,([],([],([],[])))))),1,rfl,rfl,di _,di _⟩
  |true=>
   obtain⟨p,b,b1,b2⟩:=bF9 N f.2.2 s (by omega) (by omega) g.srt;rw[c8,aK,aK,b1,aB,t2,aB,aD,t3,aB,aD];cases b with
   |true=>
    obtain⟨h1,h2⟩:=b2.2.2.1 rfl;rw[aN];exact⟨(0,(0,(Arr.zero 16,([],([],([],[])))))),9,rfl,aZm f.2.2 s p h1 h2 (fun j hj hj'=>aGp (b2.2.1 j hj hj')) n _ _ _ r p 0 N _ (by omega) (by omega),di _,di _⟩
   |false=>
    have hd:∀g' y',iY N N s 0 g' y' f.2.2 0 0 (Arr.zero 16) [] [] 0 (lvs N f.2.2) 0 (((lvs N f.2.2).length:Nat):Int) r [] [] [] [] [] []=rdL N (0+1) s ((f.2.2.length:Nat):Int) g' y' f.2.2 (lvs N f.2.2) (p:Int) r:=fun g' y'=>by have:=bGo (N:=N) f.2.2 s p b2 g.srt n g' y' (lvs N f.2.2) r f.2.2.length 0 N (by omega) (by omega);rw[Nat.zero_min]at this;exact this
    rw[hd,aK,t1,aB];unfold rdL;rw[bAt];unfold fK;dsimp only;have hll:(lvs N f.2.2).length=f.2.2.length:=yC;have hple:=b2.1;rw[aE (c:=decide (((f.2.2.length:Nat):Int)<((f.2.2.length:Nat):Int))) (decide_eq_false (by omega))];rcases gk p with rfl|hpos
    ·rw[aE (decide_eq_false (by omega)),aE (decide_eq_false (by omega)),aD,aB];dsimp only;by_cases hr':0<f.2.2.length
     ·obtain⟨v2,e2,j1,j2,j3⟩:=pV (N:=N) (lvs N f.2.2) ((0:Nat):Int) (by omega) (by omega);rw[aF (decide_eq_true (by omega)),aF (decide_eq_true (by omega)),bJ (ε hr'),bJ (ε hr'),aD,aD,j1,j2,aB,aB];refine⟨(((0:Nat):Int),((((lvs N f.2.2).length:Nat):Int),(r,([],(f.2.2[0],([],v2)))))),0,?_,?_,di _,by show v2.length<=1000;omega⟩
      ·repeat(first|rw[aD]|rw[aB]|dsimp only)
      ·repeat(first|rw[aD]|rw[aB]|dsimp only)
     ·rw[aE (decide_eq_false (by omega)),aE (decide_eq_false (by omega))];refine⟨(((0:Nat):Int),((((lvs N f.2.2).length:Nat):Int),(r,([],([],([],[])))))),0,?_,?_,di _,di _⟩
      ·repeat(first|rw[aD]|rw[aB]|dsimp only)
      ·repeat(first|rw[aD]|rw[aB]|dsimp only)
    ·obtain⟨q,rfl⟩:∃q,p=q+1:=⟨p-1,by omega⟩;have hq:q<f.2.2.length:=by omega
     obtain⟨v1,e1,i1,i2,i3⟩:=pV (N:=N) (lvs N f.2.2) ((q:Nat):Int) (by omega) (by omega);have em:Max.max (0:Int) (((q+1:Nat):Int)-1)=((q:Nat):Int):=by omega
     have eq1:(((q+1:Nat):Int)-1)=((q:Nat):Int):=by omega
     rw[aF (decide_eq_true (by omega)),aF (decide_eq_true (by omega)),em,eq1,aM (by omega) (by omega),aM (by omega) (by omega),bJ (ε hq),bJ (ε hq),aM (by omega) (by omega),aM (by omega) (by omega),aD,aD,i1,i2,aB,aB,aD];dsimp only;rw[aD,aB];dsimp only;by_cases hr':q+1<f.2.2.length
     ·obtain⟨v2,e2,j1,j2,j3⟩:=pV (N:=N) (lvs N f.2.2) ((q+1:Nat):Int) (by omega) (by omega);rw[aF (decide_eq_true (by omega)),aF (decide_eq_true (by omega)),bJ (ε hr'),bJ (ε hr'),aD,aD,j1,j2,aB,aB];refine⟨(((q+1:Nat):Int),((((lvs N f.2.2).length:Nat):Int),(r,(f.2.2[q],(f.2.2[q+1],(v1,v2)))))),0,?_,?_,by show v1.length<=1000;omega,by show v2.length<=1000;omega⟩
      ·repeat(first|rw[aD]|rw[aB]|dsimp only)
      ·repeat(first|rw[aD]|rw[aB]|dsimp only)
     ·rw[aE (decide_eq_false (by omega)),aE (decide_eq_false (by omega))];refine⟨(((q+1:Nat):Int),((((lvs N f.2.2).length:Nat):Int),(r,(f.2.2[q],([],(v1,[])))))),0,?_,?_,by show v1.length<=1000;omega,di _⟩
      ·repeat(first|rw[aD]|rw[aB]|dsimp only)
      ·repeat(first|rw[aD]|rw[aB]|dsimp only)
 ·rw[bIn h,aN,aN];exact⟨(0,(0,(Arr.zero 16,([],([],([],[])))))),chk f,rfl,rfl,di _,di _⟩
theorem aSp{x:Option α}{f:α->Option β}(v:α)(h:x=some v):bd? x f=f v:=by rw[h];rfl
theorem aWx(hN:1100000<=N)(root:Arr 16)(g y:Int)(s:Str)(a:Prf)(hs:s.length<=1000)(hp:a.2.2.2.length<=1000000)(hg:I64 g)(hy:I64 y)(hn:I64 a.2.1):∃b,hU N root g y s a=some b/\nF N root g y s a=some b:=by
 obtain⟨i,n,t,p⟩:=a;obtain⟨z,z1,z2⟩:=aOn (N:=N) (by omega) hg hy hn t;obtain⟨l1,l2⟩:=aHm (N:=N) (by omega) s (by omega);unfold hU nF;dsimp only at z1 z2 hp|-;rw[xY s g y (by omega) hs,aP1 s g y (by omega) hs,z1,z2];by_cases h3:n>1000
 ·rw[aF (decide_eq_true h3),aF (decide_eq_true h3)];cases hr s g y<;>exact⟨false,rfl,rfl⟩
 ·rw[aE (decide_eq_false h3),aE (decide_eq_false h3)];cases hr s g y with
  |false=>exact⟨false,rfl,rfl⟩
  |true=>
   simp only[aB,c8,aK];cases hz:root.l==z.l with
   |false=>exact⟨false,rfl,rfl⟩
   |true=>
    simp only[c8,aK];obtain⟨b,b1,b2⟩:=nM (N:=N) (lf N s) i n p t (by omega) hp hN;rw[l1,l2,aB,aB,b1,b2,aB];exact⟨b,rfl,rfl⟩
section
variable{N:Nat}{root:Arr 16}{g y:Int}{s:Str}{i n:Int}{t:Arr 16}{l r:Str}{lp rp:List (Arr 16)}{z e:Arr 16}{cl cr:Bool}
def dl(s:Str)(i:Int)(l:Str)(lp:List (Arr 16))(cl:Bool):Bool:=if i>0 then Op.bytesLess l s&&cl else(l==[])&&(((lp.length:Nat):Int)==0)
def dr(s:Str)(i n:Int)(r:Str)(rp:List (Arr 16))(cr:Bool):Bool:=if i<n then Op.bytesLess s r&&cr else(r==[])&&(((rp.length:Nat):Int)==0)
def dz(n:Int)(t e:Arr 16):Bool:=n==0&& !(t.l==e.l)
theorem aTd{a b:Bool}:(bd? (if? a (some b) (some false)) fun w=>some w)=some (a&&b):=by cases a<;>rfl
theorem aYz(hh:hr s g y=true)(hN:5000<=N)(hs:s.length<=1000)(h1:¬i<0)(h2:¬i>n)(h3:¬n>1000)(hz:jA N g y n t=some z)(he:G_merkle_Root N []=some e)(l1:cB N l=some (lf N l))(r1:cB N r=some (lf N r))
  (hcl:aY N (lf N l) (i-1) n lp t=some cl) (hcr:aY N (lf N r) i n rp t=some cr) (hrz:(root.l==z.l)=true):
  dU N root g y s (i,(n,(t,(l,(r,(lp,rp))))))=some (!dz n t e&&(dl s i l lp cl&&dr s i n r rp cr)):=by
 unfold dU;dsimp only;rw[xY s g y hN hs,hh,hz,aE (decide_eq_false h1),aE (decide_eq_false h2),aE (decide_eq_false h3)];simp only[aB,c8,aK,hrz];rw[aSp (s,dz n t e,i,n,t,l,r,lp,rp) (by
  unfold dz;by_cases h:n=0
  ·rw[kC h,aN,he,aB];rfl
  ·rw[fA h,aK];rfl)]
 dsimp only;cases dz n t e with
 |true=>rfl
 |false=>
  rw[aK,aSp (s,(l==[])&&(((lp.length:Nat):Int)==0),(r==[])&&(((rp.length:Nat):Int)==0),i,n,t,l,r,lp,rp) (by cases(l==[])<;>cases(r==[])<;>rfl)];dsimp only;rw[aSp (s,dl s i l lp cl,(r==[])&&(((rp.length:Nat):Int)==0),i,n,t,l,r,lp,rp) (by
   unfold dl;by_cases h:i>0
   ·rw[aF (decide_eq_true h),if_pos h];cases Op.bytesLess l s with
    |false=>rfl
    |true=>rw[aN,l1,aB,aM (by omega) (by omega),hcl,aB];rfl
   ·rw[aE (decide_eq_false h),if_neg h])]
  dsimp only;rw[aSp (dl s i l lp cl,dr s i n r rp cr) (by
   unfold dr;by_cases h:i<n
   ·rw[aF (decide_eq_true h),if_pos h];cases Op.bytesLess s r with
    |false=>rfl
    |true=>rw[aN,r1,aB,hcr,aB];rfl
   ·rw[aE (decide_eq_false h),if_neg h])]
  dsimp only;rw[aTd];rfl
theorem aVy{b:Bool}{x:Str}{j:Int}{q:List (Arr 16)}{c:Bool}{a:Abs}(hl:b=true->dC N x=some (lf N x))(hc:b=true->bA N (lf N x) j a.2.1 q a.2.2.1=some c):mY N b x j a q=some (if b=true then c else(x==[])&&(((q.length:Nat):Int)==0)):=by
 unfold mY;cases b with
 |false=>rw[fy,aN,aTd];rfl
 |true=>rw[c8,aK,hl rfl,aB,hc rfl,aB];rfl
theorem bE0(hh:hr s g y=true)(hN:5000<=N)(hs:s.length<=1000)(h1:¬i<0)(h2:¬i>n)(h3:¬n>1000)(hz:gB N g y n t=some z)(he:G_ref03_Root N []=some e)(l1:dC N l=some (lf N l))(r1:dC N r=some (lf N r))
  (hcl:bA N (lf N l) (i-1) n lp t=some cl) (hcr:bA N (lf N r) i n rp t=some cr) (hrz:(root.l==z.l)=true):
  fJ N root g y s (i,(n,(t,(l,(r,(lp,rp))))))=some (!dz n t e&&(dl s i l lp cl&&dr s i n r rp cr)):=by
 unfold fJ;dsimp only;rw[aP1 s g y hN hs,hh,hz,aE (decide_eq_false h1),aE (decide_eq_false h2),aE (decide_eq_false h3)];simp only[aB,c8,aK,hrz];have hx:∀b:Bool,(if? (n==0) (bd? (G_ref03_Root N []) fun v9=>some ((!(t.l==v9.l)),i,n,t,l,r,lp,rp)) (some (false,i,n,t,l,r,lp,rp)))=some (dz n t e,i,n,t,l,r,lp,rp):=fun _=>by
  unfold dz;by_cases h:n=0
  ·rw[kC h,aN,he,aB];rfl
  ·rw[fA h,aK];rfl
 rw[hx true];rw[aSp ((decide (i>0)&& !Op.bytesLess l s)||(decide (i<n)&& !Op.bytesLess s r)||dz n t e,i,n,t,l,r,lp,rp) (by
  cases decide (i>0)<;>cases decide (i<n)<;>cases Op.bytesLess l s<;>cases Op.bytesLess s r<;>rfl)]
 dsimp only;have hc1:-9223372036854775808<=i-1:=by omega
 have hc2:i-1<=9223372036854775807:=by omega
 rw[aM hc1 hc2,aVy (fun _=>l1) (fun _=>hcl),aB,aVy (fun _=>r1) (fun _=>hcr),aB,aTd];unfold dl dr;by_cases h:i>0<;>by_cases h':i<n<;>simp only[h,h',decide_true,decide_false,if_true,if_false,Bool.true_and,Bool.false_and,Bool.false_or,Bool.or_false]<;>cases dz n t e<;>cases Op.bytesLess l s<;>cases Op.bytesLess s r<;>cases cl<;>cases cr<;>first|rfl|(simp;done)
end
theorem aWl(hN:1100000<=N)(root:Arr 16)(g y:Int)(s:Str)(a:Abs)(hs:s.length<=1000)(hl:a.2.2.2.1.length<=1000)(hr':a.2.2.2.2.1.length<=1000)(hp:a.2.2.2.2.2.1.length<=1000000)(hq:a.2.2.2.2.2.2.length<=1000000)(hg:I64 g)(hy:I64 y)(hn:I64 a.2.1):∃b,dU N root g y s a=some b/\fJ N root g y s a=some b:=by
 obtain⟨i,n,t,l,r,lp,rp⟩:=a;dsimp only at hl hr' hp hq hn;obtain⟨z,z1,z2⟩:=aOn (N:=N) (by omega) hg hy hn t;obtain⟨e,e1,e2⟩:=xX 0 N [] (ω _) (by omega) (by omega);by_cases hok:hr s g y=true/\¬i<0/\¬i>n/\¬n>1000/\(root.l==z.l)=true
 ·obtain⟨k1,k2,k3,k4,k5⟩:=hok;obtain⟨cl,c1,c2⟩:=nM (N:=N) (lf N l) (i-1) n lp t (by omega) hp hN;obtain⟨cr,d1,d2⟩:=nM (N:=N) (lf N r) i n rp t (by omega) hq hN;exact⟨_,aYz k1 (by omega) hs k2 k3 k4 z1 e1 (aHm (by omega) l (by omega)).1 (aHm (by omega) r (by omega)).1 c1 d1 k5,bE0 k1 (by omega) hs k2 k3 k4 z2 e2 (aHm (by omega) l (by omega)).2 (aHm (by omega) r (by omega)).2 c2 d2 k5⟩
 ·refine⟨false,?_,?_⟩
  ·unfold dU;dsimp only;rw[xY s g y (by omega) hs,z1];by_cases h1:i<0
   ·rw[aF (decide_eq_true h1)];rfl
   rw[aE (decide_eq_false h1)];by_cases h2:i>n
   ·rw[aF (decide_eq_true h2)];rfl
   rw[aE (decide_eq_false h2)];by_cases h3:n>1000
   ·rw[aF (decide_eq_true h3)];rfl
   rw[aE (decide_eq_false h3)];cases h4:hr s g y with
   |false=>rfl
   |true=>
    simp only[aB,c8,aK];cases h5:root.l==z.l with
    |false=>rfl
    |true=>exact absurd ⟨h4,h1,h2,h3,h5⟩ hok
  ·unfold fJ;dsimp only;rw[aP1 s g y (by omega) hs,z2];cases h4:hr s g y with
   |false=>rfl
   |true=>
    simp only[aB,c8,aK];by_cases h1:i<0
    ·rw[aF (decide_eq_true h1)];rfl
    rw[aE (decide_eq_false h1)];by_cases h2:i>n
    ·rw[aF (decide_eq_true h2)];rfl
    rw[aE (decide_eq_false h2)];by_cases h3:n>1000
    ·rw[aF (decide_eq_true h3)];rfl
    rw[aE (decide_eq_false h3)];cases h5:root.l==z.l with
    |false=>rfl
    |true=>exact absurd ⟨h4,h1,h2,h3,h5⟩ hok
theorem bLg(m:Nat):mF (m+1)=mD (mF m):=rfl
theorem aUz(q:List (Arr 16))(hq:q.length<=1000000):∀(k i m:Nat),i+k=q.length->k<m->mF m q q (i:Int)=some true
 |k,i,0,_,h=>by omega
 |0,i,m+1,hi,_=>by
  rw[bLg];unfold mD;rw[aE (decide_eq_false (by omega))]
 |k+1,i,m+1,hi,hm=>by
  have hlt:i<q.length:=by omega
  rw[bLg];unfold mD;rw[aF (decide_eq_true (by omega)),bJ (ε hlt),bJ (ε hlt),beq_self_eq_true,c8,aK,aM (by omega) (by omega),show(i:Int)+1=((i+1:Nat):Int) by omega];exact aUz q hq k (i+1) m (by omega) (by omega)
theorem aTv(q:List (Arr 16))(hN:1100000<=N)(hq:q.length<=1000000):jQ N q q=some true:=by unfold jQ;rw[jT rfl,aK];exact aUz q hq q.length 0 N (by omega) (by omega)
theorem bJz(p:Prf)(hN:1100000<=N)(hq:p.2.2.2.length<=1000000):eV N p p=some true:=by unfold eV;rw[aTv _ hN hq,aB,aN,beq_self_eq_true,aN,beq_self_eq_true,aN,beq_self_eq_true];rfl
theorem bKb(p:Abs)(hN:1100000<=N)(hq:p.2.2.2.2.2.1.length<=1000000)(hr:p.2.2.2.2.2.2.length<=1000000):dP N p p=some true:=by unfold dP;rw[aTv _ hN hq,aB,aTv _ hN hr,aB,aN,aN,beq_self_eq_true,aN,beq_self_eq_true,aN,beq_self_eq_true,aN,beq_self_eq_true,aN,beq_self_eq_true];rfl
theorem bKp(m:Nat):kM (m+1)=oF (kM m):=rfl
theorem aUx(l:List Str)(hl:l.length<=1010)(g y:Int):∀(k i m:Nat),i+k=l.length->k<m->∃b,kM m (i:Int) g y l=some b/\(b=true->∀x∈l.drop i,x.length<=400)
 |k,i,0,_,h=>by omega
 |0,i,m+1,hi,_=>by
  rw[bKp];unfold oF;rw[aE (decide_eq_false (by omega)),List.drop_of_length_le (by omega)];exact⟨true,rfl,fun _ x hx=>(dm hx).elim⟩
 |k+1,i,m+1,hi,hm=>by
  have hlt:i<l.length:=by omega
  rw[bKp];unfold oF;rw[aF (decide_eq_true (by omega)),bJ (ε hlt),gP hlt];by_cases h:l[i].length>400
  ·rw[aF (decide_eq_true (by omega))];exact⟨false,rfl,fun h=>by cases h⟩
  ·rw[aE (decide_eq_false (by omega)),aM (by omega) (by omega),show(i:Int)+1=((i+1:Nat):Int) by omega];obtain⟨b,h1,h2⟩:=aUx l hl g y k (i+1) m (by omega) (by omega);exact⟨b,h1,fun hb x hx=>(bw.1 hx).elim (fun e=>by rw[e];omega) (h2 hb x)⟩
theorem bH8(hN:1100000<=N)(f:Fo):∃b,oX N f 12=some b/\(b=true->f.2.2.length<=1010/\∀x∈f.2.2,x.length<=400):=by
 unfold oX;have go:∀b:Bool,(b=false->f.2.2.length<=1010)->∃b',(if? b (some false) (kM N 0 f.1 f.2.1 f.2.2))=some b'/\(b'=true->f.2.2.length<=1010/\∀x∈f.2.2,x.length<=400):=fun b hb=>by
  cases b with
  |true=>exact⟨false,rfl,fun h=>by cases h⟩
  |false=>
   have hl:=hb rfl;obtain⟨b',h1,h2⟩:=aUx f.2.2 hl f.1 f.2.1 f.2.2.length 0 N (by omega) (by omega);exact⟨b',h1,fun h=>⟨hl,h2 h⟩⟩
 by_cases h:((f.2.2.length:Nat):Int)>12
 ·rw[aF (decide_eq_true h)];by_cases h2:((f.2.2.length:Nat):Int)<=1000
  ·rw[aF (decide_eq_true h2),aB];exact go true (fun h=>by cases h)
  ·rw[aE (decide_eq_false h2),aB];exact go _ (fun h=>by have:=of_decide_eq_false h;omega)
 ·rw[aE (decide_eq_false h),aB];exact go _ (fun h=>by have:=of_decide_eq_false h;omega)
theorem bGw(N m:Nat):bR N (m+1)=bP N (bR N m):=rfl
theorem aUs{N:Nat}(hN:1100000<=N)(hsan:fM N=some true)(s:Str)(g y:Int)(items:List Str)(D:Arr 16)(i n:Int)(t:Arr 16)(p:List (Arr 16))(I S:Int)(T:Arr 16)(L R:Str)(LP RP:List (Arr 16))(hs:s.length<=1000)(hp:p.length<=1000000)(hL:L.length<=1000)(hR:R.length<=1000)(hLP:LP.length<=1000000)(hRP:RP.length<=1000000)(hg:I64 g)(hy:I64 y)(hn:I64 n)(hS:I64 S)(rs:List (Arr 16))(hrs:rs.length<=2):∀(k j m:Nat),j+k=rs.length->k<m->bR N m s ((rs.length:Nat):Int) (j:Int) g y items D i n t p I S T L R LP RP rs=some true
 |k,j,0,_,h=>by omega
 |0,j,m+1,hj,_=>by
  rw[bGw];unfold bP;rw[aE (decide_eq_false (by omega)),hsan,aB]
 |k+1,j,m+1,hj,hm=>by
  have hlt:j<rs.length:=by omega
  obtain⟨b,b1,b2⟩:=aWx hN rs[j] g y s (i,(n,(t,p))) hs hp hg hy hn;obtain⟨c,c1,c2⟩:=aWl hN rs[j] g y s (I,(S,(T,(L,(R,(LP,RP)))))) hs hL hR hLP hRP hg hy hS;rw[bGw];unfold bP;rw[aF (decide_eq_true (by omega)),aC (by omega),aC (by omega),π,aPm (ε hlt),aSp (s,((rs.length:Nat):Int),(j:Int),false,g,y,items,D,i,n,t,p,I,S,T,L,R,LP,RP,rs) (by
   rw[b1,aB,b2,aB,beq_self_eq_true,c8,aK,c1,aB,c2,aB,aD,beq_self_eq_true];rfl)]
  dsimp only;rw[aK,aM (by omega) (by omega),aD,show(j:Int)+1=((j+1:Nat):Int) by omega];exact aUs hN hsan s g y items D i n t p I S T L R LP RP hs hp hL hR hLP hRP hg hy hn hS rs hrs k (j+1) m (by omega) (by omega)
theorem aTl(hN:1100000<=N)(hsan:fM N=some true)(f:Fo)(s:Str)(D:Arr 16)(pf:Prf)(ab:Abs)(hg:I64 f.1)(hy:I64 f.2.1)(hn:I64 pf.2.1)(hS:I64 ab.2.1):cD N f s (D,(pf,ab))=some true:=by
 obtain⟨g,y,items⟩:=f;obtain⟨i,n,t,p⟩:=pf;obtain⟨I,S,T,L,R,LP,RP⟩:=ab;dsimp only at hg hy hn hS;unfold cD;dsimp only;obtain⟨b,hb,hc⟩:∃b,(bd? (oX N (g,(y,items)) 12) fun v4=>if? ((!v4)) (some (s,true,g,y,items,D,i,n,t,p,I,S,T,L,R,LP,RP)) (if? (decide (((s.length:Nat):Int)>400)) (some (s,true,g,y,items,D,i,n,t,p,I,S,T,L,R,LP,RP)) (if? (decide (((p.length:Nat):Int)>20)) (some (s,true,g,y,items,D,i,n,t,p,I,S,T,L,R,LP,RP)) (if? (decide (((LP.length:Nat):Int)>20)) (some (s,true,g,y,items,D,i,n,t,p,I,S,T,L,R,LP,RP)) (if? (decide (((RP.length:Nat):Int)>20)) (some (s,true,g,y,items,D,i,n,t,p,I,S,T,L,R,LP,RP)) (if? (decide (((L.length:Nat):Int)>400)) (some (s,true,g,y,items,D,i,n,t,p,I,S,T,L,R,LP,RP)) (some (s,decide (((R.length:Nat):Int)>400),g,y,items,D,i,n,t,p,I,S,T,L,R,LP,RP))))))))=some (s,b,g,y,items,D,i,n,t,p,I,S,T,L,R,LP,RP)/\(b=false->(∀x∈items,x.length<=400)/\s.length<=400/\p.length<=20/\LP.length<=20/\RP.length<=20/\L.length<=400/\R.length<=400):=by
  obtain⟨w,w1,w2⟩:=bH8 hN (g,(y,items));rw[w1,aB];have no:true=false->(∀x∈items,x.length<=400)/\s.length<=400/\p.length<=20/\LP.length<=20/\RP.length<=20/\L.length<=400/\R.length<=400:=fun h=>by cases h
  cases w with
  |false=>exact⟨true,rfl,no⟩
  |true=>
   rw[c8,aK];by_cases h1:((s.length:Nat):Int)>400
   ·rw[aF (decide_eq_true h1)];exact⟨true,rfl,no⟩
   rw[aE (decide_eq_false h1)];by_cases h2:((p.length:Nat):Int)>20
   ·rw[aF (decide_eq_true h2)];exact⟨true,rfl,no⟩
   rw[aE (decide_eq_false h2)];by_cases h3:((LP.length:Nat):Int)>20
   ·rw[aF (decide_eq_true h3)];exact⟨true,rfl,no⟩
   rw[aE (decide_eq_false h3)];by_cases h4:((RP.length:Nat):Int)>20
   ·rw[aF (decide_eq_true h4)];exact⟨true,rfl,no⟩
   rw[aE (decide_eq_false h4)];by_cases h5:((L.length:Nat):Int)>400
   ·rw[aF (decide_eq_true h5)];exact⟨true,rfl,no⟩
   rw[aE (decide_eq_false h5)];exact⟨_,rfl,fun h=>by
    have:=of_decide_eq_false h;exact⟨(w2 rfl).2,by omega,by omega,by omega,by omega,by omega,by omega⟩⟩
 rw[hb,aB];dsimp only;cases b with
 |true=>rw[aN,hsan,aB]
 |false=>
  obtain⟨k1,k2,k3,k4,k5,k6,k7⟩:=hc rfl;have hp:∀x∈((g,(y,items)):Fo).2.2,x.length<=1000:=fun x hx=>by have:=k1 x hx;omega
  obtain⟨v,v1,v2⟩:=bDv hN (g,(y,items)) hp;obtain⟨q,e,q1,q2,q3⟩:=bA3 hN (g,(y,items)) hp s;obtain⟨a,e',a1,a2,a3,a4⟩:=bDw hN (g,(y,items)) hp s (by omega);rw[aK,v1,aB,v2,aB,q1,aB,q2,aB,a1,aB,a2,aB,aSp (s,false,g,y,items,D,i,n,t,p,I,S,T,L,R,LP,RP,v.1) (by
   rw[aB7 (by omega) (g,(y,items)) hp,aB,aNo (by omega) (g,(y,items)) hp,aB,jT rfl,aK,beq_self_eq_true,c8,aK,jT rfl,aK,jT rfl,aK];have s1:eV N (q.1,(q.2.1,(q.2.2.1,q.2.2.2))) (q.1,(q.2.1,(q.2.2.1,q.2.2.2)))=some true:=bJz q hN (by omega);have s2:dP N (a.1,(a.2.1,(a.2.2.1,(a.2.2.2.1,(a.2.2.2.2.1,(a.2.2.2.2.2.1,a.2.2.2.2.2.2)))))) (a.1,(a.2.1,(a.2.2.1,(a.2.2.2.1,(a.2.2.2.2.1,(a.2.2.2.2.2.1,a.2.2.2.2.2.2))))))=some true:=bKb a hN (by omega) (by omega);rw[s1,aB,c8,aK,jT rfl,aK,s2,aB];rfl)]
  dsimp only;rw[aK];exact aUs hN hsan s g y items D i n t p I S T L R LP RP (by omega) (by omega) (by omega) (by omega) (by omega) (by omega) hg hy hn hS [v.1,D] (ω _) 2 0 N rfl (by omega)
abbrev dF:List Ty:=[.w (.p tA (.p tA (.sl .s))),.s,.w (.p tC (.p tI tG))]
theorem aW0(N:Nat)(x0:(dF[0]).T)(x1:(dF[1]).T)(x2:(dF[2]).T)(h:cD N x0 x1 x2=some true):ACall Tryz.prog 3 (aLj dF (x0,(x1,(x2,())))) [] (.D (.B true)) [] []:=by
 letI:YL:=⟨0⟩
 have q:ACall Tryz.prog 3 [(aC8 dF[0] x0).er,(aC8 .s x1).er,(aC8 dF[2] x2).er] [] (.D (.B true)) [] []:=pG N (x0,(x1,(x2,()))) true h [] rfl;rw[aCj,aCj,aCj]at q;exact q
theorem roots_acall:∀x:tup dF,aOv dF x->ACall Tryz.prog 3 (aLj dF x) [] (.D (.B true)) [] []
 |(x0,(x1,(x2,()))),hx=>aW0 17179869200 x0 x1 x2 (by
  obtain⟨⟨g1,g2,_⟩,_,⟨_,⟨_,n1,_⟩,⟨_,n2,_⟩⟩,_⟩:=hx;exact aTl (by omega) bAm x0 x1 x2.1 x2.2.1 x2.2.2 (aMe g1) (aMe g2) (aMe n1) (aMe n2))
end Go.Proofs.Tryz

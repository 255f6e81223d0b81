/- Texts of this claim. -/
import Derived.Test.YtoklpgfaedjjpaaGreatDoorLA
import Derived.Test.YtoklpgfaedjjpaaGreatDoorYB
open BitVec renaming ofInt->j0,ofInt_natCast->iw,toNat_ofNat->jk
open Go.IntKind renaming bits->gm,wrap->δ
open Int renaming add_zero->il,ediv_eq_zero_of_lt->mr,ediv_nonneg->l6,eq_ofNat_of_zero_le->iy,le_of_lt->jy,lt_or_eq_of_le->ma,mul_comm->nz,mul_le_mul_of_nonneg_left->dc,mul_le_mul_of_nonneg_right->c7,mul_nonneg->ic,mul_zero->ik,natCast_add->ni,natCast_mul->ew,natCast_pow->nh,toNat_natCast->ξ,zero_add->mu
open List renaming append_assoc->υ,drop->df,dropWhile_cons->nv,drop_append_of_le_length->ee,drop_drop->dv,drop_set_of_lt->j6,drop_zero->cc,getD_eq_getElem?_getD->az,getElem?_eq_none->bw,getElem?_eq_some_iff->χ,getElem?_set_ne->iz,getElem?_set_self->jr,length_append->ι,length_drop->aw,length_eq_zero_iff->de,length_map->κ,length_replicate->di,length_reverse->lu,length_set->ef,length_take->bn,mem_of_getElem?->br,replicate->ω,take->cm,take_append_drop->gv,take_length->m7,take_of_length_le->bk,take_set_of_le->nk,take_succ_eq_append_getElem->jx,take_zero->iq
open Nat renaming div_add_mod->l7,div_lt_of_lt_mul->nf,eq_zero_or_pos->gk,exists_eq_add_of_le->kf,le_of_lt->kj,le_of_not_lt->la,le_refl->τ,le_trans->cg,lt_of_lt_of_le->dm,lt_of_not_le->ke,min_eq_left->gn,mod_eq_of_lt->ji,mod_lt->jt,mul_comm->j5,mul_le_mul_right->cq,not_lt_zero->cj,pow_le_pow_right->dw,pow_succ->lh,pow_zero->oa,strongRecOn->ie,zero_le->fo
open UInt8 renaming toNat_inj->l8,toNat_ofNat'->ju
set_option linter.all false
namespace Go.Nt
variable{l:List Int}{n:Nat}{d:Int}
def lv:List Int->Int
 |[]=>0
 |d::l=>d+4294967296*lv l
def LOk:List Int->Prop
 |[]=>True
 |d::l=>(0<=d/\d<4294967296)/\LOk l
theorem mU:∀{l:List Int},LOk l->0<=lv l
 |[],_=>Int.le_refl 0
 |d::l,h=>by have:=mU h.2;have:=h.1;show 0<=d+4294967296*lv l;omega
theorem pS:∀{a c:List Int},LOk (a++c)↔LOk a/\LOk c
 |[],c=>⟨fun h=>⟨trivial,h⟩,fun h=>h.2⟩
 |d::a,c=>by show(_/\LOk (a++c))↔(_/\LOk a)/\LOk c;rw[pS];exact and_assoc.symm
theorem rO:∀{l:List Int},LOk l↔∀d∈l,0<=d/\d<4294967296
 |[]=>⟨fun _ _ h=>by simp at h,fun _=>trivial⟩
 |d::l=>by show(_/\LOk l)↔_;rw[rO];simp
theorem cO{i:Nat}(h:LOk l)(e:l[i]?=some d):0<=d/\d<4294967296:=rO.1 h d (br e)
theorem gZ(n:Nat)(h:LOk l):LOk (l.drop n):=rO.2 fun d hd=>rO.1 h d (List.mem_of_mem_drop hd)
theorem eC(n:Nat)(h:LOk l):LOk (l.take n):=rO.2 fun d hd=>rO.1 h d (List.mem_of_mem_take hd)
theorem aJi{i:Nat}(h:LOk l)(h0:0<=d/\d<4294967296):LOk (l.set i d):=rO.2 fun x hx=>by
 rcases List.mem_or_eq_of_mem_set hx with h1|h1
 ·exact rO.1 h x h1
 ·subst h1;exact h0
theorem aJ1(n:Nat):LOk (ω n 0):=rO.2 fun d hd=>by rw[(List.mem_replicate.1 hd).2];decide
def W(n:Nat):Int:=4294967296^n
theorem W0:W 0=1:=rfl
theorem W1:W 1=4294967296:=rfl
theorem Ws(n:Nat):W (n+1)=4294967296*W n:=by unfold W;rw[Int.pow_succ,nz]
theorem Wp(n:Nat):0<W n:=by
 induction n with
 |zero=>decide
 |succ n ih=>rw[Ws];omega
theorem Wa(m n:Nat):W (m+n)=W m*W n:=by unfold W;exact Int.pow_add _ _ _
theorem vR:∀(a c:List Int),lv (a++c)=lv a+W a.length*lv c
 |[],c=>by show lv c=0+W 0*lv c;rw[W0];omega
 |d::a,c=>by show d+4294967296*lv (a++c)=d+4294967296*lv a+W (a.length+1)*lv c;rw[vR a c,Ws];grind
theorem rC:∀{l:List Int},LOk l->lv l<W l.length
 |[],_=>by decide
 |d::l,h=>by have:=rC h.2;have:=h.1;show d+4294967296*lv l<W (l.length+1);rw[Ws];omega
theorem aNc(n:Nat):lv (ω n 0)=0:=by
 induction n with
 |zero=>rfl
 |succ n ih=>show 0+4294967296*lv (ω n 0)=0;rw[ih];rfl
theorem eJ(l:List Int)(n:Nat)(h:n<=l.length):lv l=lv (l.take n)+W n*lv (l.drop n):=by have:=vR (l.take n) (l.drop n);rw[gv,bn,gn h]at this;exact this
theorem eY(h:l[n]?=some d):lv (l.drop n)=d+4294967296*lv (l.drop (n+1)):=by obtain⟨hn,rfl⟩:=χ.1 h;rw[List.drop_eq_getElem_cons hn];rfl
theorem gH(h:l.length<=n):lv (l.drop n)=0:=by rw[List.drop_eq_nil_of_le h];rfl
theorem aE9(h:l[n]?=some d):lv (l.take (n+1))=lv (l.take n)+W n*d:=by obtain⟨hn,rfl⟩:=χ.1 h;rw[jx hn,vR,bn,gn (by omega)];show _+W n*(l[n]+4294967296*0)=_;rw[ik,il]
theorem aW6{e:Int}(h:l[n]?=some d):lv (l.set n e)=lv l+W n*(e-d):=by obtain⟨hn,hd⟩:=χ.1 h;have h1:=eJ l n (by omega);have h2:=eJ (l.set n e) n (by rw[ef];omega);rw[eY h]at h1;rw[eY (d:=e) (by rw[jr hn]),nk (by omega),j6 (by omega)]at h2;rw[h1,h2];grind
def dg(n:Nat):List Int:=if h:n=0 then[]else((n%4294967296:Nat):Int)::dg (n/4294967296)
termination_by n
decreasing_by omega
theorem dg0:dg 0=[]:=by unfold dg;simp
theorem dgs(h:n≠0):dg n=((n%4294967296:Nat):Int)::dg (n/4294967296):=by rw[dg];simp[h]
theorem bMh(n:Nat):LOk (dg n)/\lv (dg n)=n:=by
 induction n using ie with
 |ind n ih=>
  by_cases h:n=0
  ·subst h;rw[dg0];exact⟨trivial,rfl⟩
  ·obtain⟨h1,h2⟩:=ih (n/4294967296) (by omega);rw[dgs h];refine⟨⟨by omega,h1⟩,?_⟩;show((n%4294967296:Nat):Int)+4294967296*lv (dg (n/4294967296))=n;rw[h2];omega
theorem gI(n:Nat):lv (dg n)=n:=(bMh n).2
theorem cP(n:Nat):LOk (dg n):=(bMh n).1
theorem bN6{a b:Nat}(h:dg a=dg b):a=b:=by have:=congrArg lv h;rw[gI,gI]at this;omega
theorem bOc{a:Nat}:dg a=[]↔a=0:=⟨fun h=>bN6 (h.trans dg0.symm),fun h=>by rw[h,dg0]⟩
theorem bFv:∀{l:List Int} {d:Int},LOk l->0<d->d<4294967296->dg (lv (l++[d])).toNat=l++[d]
 |[],d,_,h1,h2=>by
  have:(lv ([]++[d])).toNat=d.toNat:=by show(d+4294967296*0).toNat=_;congr 1;omega
  rw[this,dgs (by omega),show d.toNat/4294967296=0 by omega,dg0];show[_]=[d];congr 1;omega
 |x::l,d,h,h1,h2=>by
  have ih:=bFv (l:=l) h.2 h1 h2;have hp:0<=lv (l++[d]):=mU (pS.2 ⟨h.2,⟨by omega,h2⟩,trivial⟩);have hq:0<lv (l++[d]):=by
   rcases ma hp with h0|h0
   ·exact h0
   ·rw[<-h0]at ih;rw[show(0:Int).toNat=0 from rfl,dg0]at ih;simp at ih
  have:=h.1;have e:lv (x::l++[d])=x+4294967296*lv (l++[d]):=rfl;rw[e,dgs (by omega)];have e1:(x+4294967296*lv (l++[d])).toNat/4294967296=(lv (l++[d])).toNat:=by omega
  have e2:(((x+4294967296*lv (l++[d])).toNat%4294967296:Nat):Int)=x:=by omega
  rw[e1,e2,ih];rfl
theorem aZ3(h:n≠0):∃l d,dg n=l++[d]/\LOk l/\0<d/\d<4294967296:=by
 induction n using ie with
 |ind n ih=>
  by_cases h0:n/4294967296=0
  ·exact⟨[],((n%4294967296:Nat):Int),by rw[dgs h,h0,dg0];rfl,trivial,by omega,by omega⟩
  ·obtain⟨l,d,e,h1,h2⟩:=ih (n/4294967296) (by omega) h0;exact⟨((n%4294967296:Nat):Int)::l,d,by rw[dgs h,e];rfl,⟨by omega,h1⟩,h2⟩
theorem sN{k:Nat}(h:(n:Int)<W k):(dg n).length<=k:=by
 by_cases h0:n=0
 ·subst h0;rw[dg0];exact fo k
 ·obtain⟨l,d,e,h1,h2,h3⟩:=aZ3 h0;have hv:=gI n;rw[e,vR]at hv;have:lv [d]=d:=by show d+4294967296*0=d;omega
  rw[this]at hv;rw[e,ι];show l.length+1<=k;apply la;intro hk;have hm:W k<=W l.length:=by obtain⟨c,hc⟩:=kf (show k<=l.length by omega);rw[hc,Wa];have:=Wp k;have:=Wp c;have:=dc (show(1:Int)<=W c by omega) (show 0<=W k by omega);omega
  have:=mU h1;have:=Wp l.length;have:=dc (show(1:Int)<=d by omega) (show 0<=W l.length by omega);omega
theorem aWv{k:Nat}(h:W k<=(n:Int)):k<(dg n).length:=by
 apply ke;intro hk;have h1:=rC (cP n);rw[gI]at h1;have hm:W (dg n).length<=W k:=by obtain⟨c,hc⟩:=kf hk;rw[hc,Wa];have:=Wp (dg n).length;have:=Wp c;have:=dc (show(1:Int)<=W c by omega) (show 0<=W (dg n).length by omega);omega
 omega
theorem bHk{q v v1 v2 vl top r low w P:Int}(hv:v=v1*(4294967296*w)+v2*w+vl)(hP:P=top*(4294967296*w)+r*w+low)(hw:0<w)(hl:low<w)(hvl:0<=vl)(hr:r<4294967296)(hv2:0<=v2)(h1:0<v1)(hq:0<=q)(hqv:q*v<=P):q<=top/v1:=by
 apply(Int.le_ediv_iff_mul_le h1).2;have a1:=ic hq hvl;have a2:=ic hq (ic hv2 (jy hw));have a3:r*w<=(4294967296-1)*w:=c7 (by omega) (by omega);apply Int.le_of_lt_add_one;have a4:q*v1*(4294967296*w)<(top+1)*(4294967296*w):=by subst hv hP;grind
 exact Int.lt_of_mul_lt_mul_right a4 (by omega)
theorem bJ4{q v v1 v2 vl top r low w P g:Int}(hv:v=v1*(4294967296*w)+v2*w+vl)(hP:P=top*(4294967296*w)+r*w+low)(hw:0<w)(hl:low<w)(hvl:0<=vl)(hq:0<=q)(hqv:q*v<=P)(hg:0<=g)(hgt:(top-g*v1)*4294967296+r<g*v2)(hvp:0<=v):q<g:=by
 apply Int.lt_of_not_ge;intro h;have b1:g*v<=q*v:=c7 h hvp;have b2:=ic hg hvl;have b3:g*v2*w<((top-g*v1)*4294967296+r+1)*w:=by subst hv hP;grind
 have:=Int.lt_of_mul_lt_mul_right b3 (by omega);omega
end Go.Nt
namespace Go.Proofs.Tryz
open Go.Eng Go.RowKit Go.Nt
variable{N a n b k j V P:Nat}{s t:Str}{xs rest y x d q out:List Int}{α:Type}{X J:Int}{rec3:List Int->List Int->Int->Int->List Int->Option TC}
theorem w32(n:Int):δ .u32 n=n%4294967296:=by show n.emod _=_;rfl
theorem w64(n:Int):δ .u64 n=n%18446744073709551616:=rfl
theorem w8(n:Int):δ .u8 n=n%256:=rfl
theorem aNy{n:Int}(h:0<=n/\n<4294967296):δ .u32 n=n:=by rw[w32];omega
theorem kE{n:Int}(h0:0<=n)(h:n<18446744073709551616):δ .u64 n=n:=by rw[w64];omega
theorem bJz(x y:Nat)(hx:x<18446744073709551616)(hy:y<18446744073709551616):bits .or .u64 (x:Int) (y:Int)=((x|||y:Nat):Int):=by show δ .u64 ((j0 64 x|||j0 64 y).toNat:Int)=_;rw[BitVec.toNat_or,iw,iw,jk,jk,ji (by simpa using hx),ji (by simpa using hy)];have:=Nat.or_lt_two_pow (n:=64) (by simpa using hx) (by simpa using hy);exact kE (by omega) (by omega)
theorem aRt{a b:Int}(ha:0<=a/\a<4294967296)(hb:0<=b/\b<4294967296):bits .or .u64 (a*4294967296) b=a*4294967296+b:=by
 obtain⟨x,rfl⟩:=iy ha.1;obtain⟨y,rfl⟩:=iy hb.1;have h:=bJz (x*4294967296) y (by omega) (by omega);have e:=Nat.two_pow_add_eq_or_of_lt (i:=32) (b:=y) (by omega) x;rw[show x*4294967296=2^32*x by omega,<-e]at h;have e2:(((2^32*x:Nat):Int))=(x:Int)*4294967296:=by omega
 rw[e2]at h;rw[h];omega
set_option maxRecDepth 8000
theorem aLg(h:a<b):decide ((a:Int)<((b:Nat):Int))=true:=decide_eq_true (by omega)
theorem aIv(h:¬a<b):decide ((a:Int)<((b:Nat):Int))=false:=decide_eq_false (by omega)
theorem eL{l:List α}(h:k<l.length):l[k]?=some l[k]:=List.getElem?_eq_getElem h
theorem aH{c:Bool}{a b:Option α}(h:c=true):if? c a b=a:=by rw[h];rfl
theorem aI{c:Bool}{a b:Option α}(h:c=false):if? c a b=b:=by rw[h];rfl
def kK(a b:Int):Int:=if a<b then-1 else if a=b then 0 else 1
theorem aA8(N:Nat)(a b:Int):cB N a b=some (kK a b):=by
 unfold cB lF kK;have e:∀x:Int,(x !=x)=false:=fun x=>by simp
 rw[e,e,aB,aB,bC,bC,bQf,bQf];by_cases h:a<b
 ·rw[if_pos (decide_eq_true h),if_pos h]
 ·rw[if_neg (by simpa using h),if_neg h];by_cases h2:a=b
  ·rw[if_neg (by simp;omega),if_pos h2]
  ·rw[if_pos (decide_eq_true (by omega)),if_neg h2]
theorem bJq(N:Nat)(a b:Int):jE N a b=some (kK a b):=aA8 N a b
theorem aOu:∀(m:Nat) (xs:List Int),LOk xs->xs.length<m->xs.length<=1000000000000->mI m xs=some (dg (lv xs).toNat)
 |0,_,_,h,_=>absurd h (cj _)
 |m+1,xs,hx,hm,hb=>by
  show lY (mI m) xs=_;unfold lY;rcases List.eq_nil_or_concat xs with rfl|⟨ys,d,rfl⟩
  ·rw[aI (by rfl),aB,bC];show some []=some (dg 0);rw[dg0]
  ·rw[List.concat_eq_append]at*;have hl:(ys++[d]).length=ys.length+1:=by simp
   rw[hl]at hm hb;obtain⟨hy,hd,_⟩:=pS.1 hx;have e1:(((ys.length+1:Nat):Int)-1).toNat=ys.length:=by omega
   rw[hl,aH (decide_eq_true (by omega)),aS (by omega) (by omega),qO (x:=d) (by omega) (by rw[e1];simp),aB];show if? (d==0) _ _=_;by_cases h0:d=0
   ·subst h0;have e2:(ys++[(0:Int)]).length=ys.length+1:=by simp
    rw[aH (by rfl)];show ck .i64 ((((ys++[(0:Int)]).length:Nat):Int)-1) _=_;rw[e2,e1,aS (by omega) (by omega),aC (by omega),aC (by omega),aC (by omega)];have e3:cm (ys.length-0) (df 0 (ys++[(0:Int)]))=ys:=by simp
    rw[e3,aOu m ys hy (by omega) (by omega),vR];have:lv [0]=0:=rfl;rw[this,ik,il]
   ·rw[aI (by simpa using h0),bFv hy (by omega) hd.2]
theorem rV(hx:LOk xs)(hN:xs.length<N)(hb:xs.length<=1000000000000):aY N xs=some (dg (lv xs).toNat):=aOu N xs hx hN hb
def dig(xs:List Int)(k:Nat):Int:=xs.getD k 0
theorem aR4(h:LOk xs)(k:Nat):0<=dig xs k/\dig xs k<4294967296:=by
 unfold dig;rw[az];cases e:xs[k]?with
 |none=>simp
 |some d=>exact cO h e
theorem aLo(xs:List Int)(k:Nat):lv (xs.drop k)=dig xs k+4294967296*lv (xs.drop (k+1)):=by
 unfold dig;rw[az];cases e:xs[k]?with
 |none=>
  have:=List.getElem?_eq_none_iff.1 e;rw[gH this,gH (by omega)];rfl
 |some d=>exact eY e
theorem bA0(hx:LOk xs)(k:Nat):dO N xs (k:Int)=some (dig xs k):=by
 unfold dO dig;by_cases h:k<xs.length
 ·have:=cO hx (eL h);rw[aH (aLg h),cD (eL h),kE this.1 (by omega),az,eL h];rfl
 ·rw[aI (aIv h),az,bw (by omega)];rfl
theorem aUp{N:Nat}{xs ys:List Int}(hx:LOk xs)(hy:LOk ys)(hl:xs.length=ys.length)(hb:xs.length<=1000000000000):∀(m k:Nat),k<m->k<=xs.length->lv (xs.drop k)=lv (ys.drop k)->iB N m xs ys ((k:Int)-1)=some (kK (lv xs) (lv ys))
 |0,_,h,_,_=>absurd h (cj _)
 |m+1,k,hm,hk,he=>by
  show iC N (iB N m) xs ys _=_;unfold iC;cases k with
  |zero=>
   rw[aI (by decide)];rw[cc,cc]at he;unfold kK;rw[if_neg (by omega),if_pos he]
  |succ k=>
   have e1:(((k+1:Nat):Int)-1)=(k:Int):=by omega
   have hkx:k<xs.length:=by omega
   have hky:k<ys.length:=by omega
   have h1:=cO hx (eL hkx);have h2:=cO hy (eL hky);have d1:=eY (eL hkx);have d2:=eY (eL hky);rw[e1,aH (decide_eq_true (by omega)),cD (eL hkx),cD (eL hky),bJq,aB];by_cases hc:xs[k]=ys[k]
   ·have e2:kK xs[k] ys[k]=0:=by unfold kK;rw[if_neg (by omega),if_pos hc]
    rw[e2,aI (by rfl),aS (by omega) (by omega)];exact aUp hx hy hl hb m k (by omega) (by omega) (by rw[d1,d2,he,hc])
   ·have e2:(kK xs[k] ys[k]!=0)=true:=by
     unfold kK;by_cases h:xs[k]<ys[k]
     ·rw[if_pos h];rfl
     ·rw[if_neg h,if_neg hc];rfl
    rw[aH e2];congr 1;have s1:=eJ xs k (by omega);have s2:=eJ ys k (by omega);have t1:=mU (eC k hx);have t2:=mU (eC k hy);have u1:=rC (eC k hx);have u2:=rC (eC k hy);rw[bn,gn (by omega)]at u1 u2;have key:∀p q:Int,p<q->W k*p+W k<=W k*q:=fun p q h=>by have:=dc (show p+1<=q by omega) (jy (Wp k));rw[Int.mul_add,Int.mul_one]at this;exact this
    unfold kK;by_cases h:xs[k]<ys[k]
    ·have:=key _ _ (show lv (xs.drop k)<lv (ys.drop k) by omega);rw[if_pos h,if_pos (by omega)]
    ·have:=key _ _ (show lv (ys.drop k)<lv (xs.drop k) by omega);rw[if_neg h,if_neg hc,if_neg (by omega),if_neg (by omega)]
theorem xF(h1:(dg a).length<N)(h2:(dg a).length<=1000000000000)(h3:(dg b).length<=1000000000000):bY N (dg a) (dg b)=some (kK a b):=by
 unfold bY;rw[aA8,aB];by_cases hl:(dg a).length=(dg b).length
 ·have e:kK ((dg a).length:Int) ((dg b).length:Int)=0:=by unfold kK;rw[hl,if_neg (by omega),if_pos rfl]
  rw[e,aI (by rfl),aS (by omega) (by omega),aUp (cP a) (cP b) hl h2 N _ h1 (τ _) (by rw[gH (τ _),gH (by omega)]),gI,gI]
 ·have hne:∀a b:Nat,(dg a).length<(dg b).length->a<b:=fun a b h=>by
   apply ke;intro hle;have:(dg b).length<=(dg a).length:=sN (by
    have:=rC (cP a);rw[gI]at this;omega)
   omega
  rcases Nat.lt_or_gt_of_ne hl with h|h
  ·have e:kK ((dg a).length:Int) ((dg b).length:Int)=-1:=by unfold kK;rw[if_pos (by omega)]
   have:=hne a b h;rw[e,aH (by rfl)];unfold kK;rw[if_pos (by omega)]
  ·have e:kK ((dg a).length:Int) ((dg b).length:Int)=1:=by unfold kK;rw[if_neg (by omega),if_neg (by omega)]
   have:=hne b a h;rw[e,aH (by rfl)];unfold kK;rw[if_neg (by omega),if_neg (by omega)]
theorem aKj(d:Int):lv [d]=d:=by show d+4294967296*0=d;omega
theorem aQm(l:List Int)(d:Int):lv (l++[d])=lv l+W l.length*d:=by rw[vR,aKj]
theorem bBc{x:Int}(h:0<=x):0<=W k*x:=ic (jy (Wp k)) h
theorem aWn{x:Int}(h:1<=x):W k<=W k*x:=by have:=dc h (jy (Wp k));rwa[Int.mul_one]at this
theorem aOp{N:Nat}{x y:List Int}(hx:LOk x)(hy:LOk y){M:Nat}(hN:M<N)(hM:M<=1000000000000)(hfin:lv x+lv y<W M)(hlx:x.length<=M)(hly:y.length<=M):∀(m k:Nat) (c:Int) (out:List Int),LOk out->out.length=k->k<=M->M-k<m->(0<=c/\c<=1)->
  lv out+W k*(c+lv (x.drop k)+lv (y.drop k))=lv x+lv y->mD N m x y c (M:Int) (k:Int) out=some (dg (lv x+lv y).toNat)
 |0,_,_,_,_,_,_,h,_,_=>absurd h (cj _)
 |m+1,k,c,out,ho,hk,hkM,hm,hc,hinv=>by
  show lZ N (mD N m) x y c _ _ out=_;unfold lZ;by_cases hlt:k<M
  ·have dx:=aR4 hx k;have dy:=aR4 hy k;have ex:=aLo x k;have ey:=aLo y k;rw[aH (aLg hlt),bA0 hx,bA0 hy,aB,aB,aJ,kE (n:=dig x k+dig y k) (by omega) (by omega),kE (n:=dig x k+dig y k+c) (by omega) (by omega),w32];rw[aC (by show(out.length+1)*4<=_;omega),aS (by omega) (by omega),aJ];have e2:(2:Int)^32=4294967296:=by decide
   rw[e2];have e3:((k:Int)+1)=((k+1:Nat):Int):=by omega
   rw[e3];refine aOp hx hy hN hM hfin hlx hly m (k+1) _ _ (pS.2 ⟨ho,by omega,trivial⟩) (by rw[ι,hk];rfl) (by omega) (by omega) (by omega) ?_;rw[aQm,hk,Ws];have e4:dig x k+dig y k+c=(dig x k+dig y k+c)%4294967296+4294967296*((dig x k+dig y k+c)/4294967296):=by omega
   generalize(dig x k+dig y k+c)%4294967296=d at*;generalize(dig x k+dig y k+c)/4294967296=q at*;rw[ex,ey]at hinv
   grind
  ·have hkM':k=M:=by omega
   subst hkM';rw[aI (aIv hlt),aJ];rw[gH (by omega),gH (by omega),il,il]at hinv;have h1:=mU ho;have hc0:c=0:=by
    rcases ma hc.1 with h|h
    ·have:=aWn (k:=k) (show 1<=c by omega);omega
    ·exact h.symm
   rw[hc0,ik,il]at hinv;rw[rV ho (by omega) (by omega),aB,hinv]
theorem bLe(h1:(dg a).length<=100000000)(h2:(dg b).length<=100000000)(hN:100000001<N):kA N (dg a) (dg b)=some (dg (a+b)):=by
 unfold kA;obtain⟨M,hM⟩:∃M:Nat,M=max (dg a).length (dg b).length+1:=⟨_,rfl⟩;have e1:(Max.max ((dg a).length:Int) ((dg b).length:Int))+1=(M:Int):=by omega
 rw[e1,aS (by omega) (by omega)];have ha:=rC (cP a);have hb:=rC (cP b);have hW:∀k l:Nat,k<=l->W k<=W l:=fun k l h=>by obtain⟨c,rfl⟩:=kf h;rw[Wa];exact aWn (by have:=Wp c;omega)
 have w1:=hW (dg a).length (M-1) (by omega);have w2:=hW (dg b).length (M-1) (by omega);have w3:W M=4294967296*W (M-1):=by have:=Ws (M-1);rwa[show M-1+1=M by omega]at this
 have w4:=Wp (M-1);have:=aOp (N:=N) (cP a) (cP b) (M:=M) (by omega) (by omega) (by omega) (by omega) (by omega) N 0 0 [] trivial rfl (by omega) (by omega) (by omega) (by
  rw[W0,cc,cc];show 0+1*(0+_+_)=_;omega)
 rw[gI,gI]at this;have e2:((a:Int)+(b:Int)).toNat=a+b:=by omega
 rw[e2]at this;exact this
theorem aLr{N:Nat}{x y:List Int}(hx:LOk x)(hy:LOk y)(hN:x.length<N)(hM:x.length<=1000000000000)(hge:lv y<=lv x):∀(m k:Nat) (c:Int) (out:List Int),LOk out->out.length=k->k<=x.length->x.length-k<m->(0<=c/\c<=1)->
  lv out+W k*(lv (x.drop k)-lv (y.drop k)-c)=lv x-lv y->kW N m x y c (x.length:Int) (k:Int) out=some (dg (lv x-lv y).toNat)
 |0,_,_,_,_,_,_,h,_,_=>absurd h (cj _)
 |m+1,k,c,out,ho,hk,hkM,hm,hc,hinv=>by
  show kQ N (kW N m) x y c _ _ out=_;unfold kQ;by_cases hlt:k<x.length
  ·have dx:=cO hx (eL hlt);have dy:=aR4 hy k;have ex:=eY (eL hlt);have ey:=aLo y k;rw[aH (aLg hlt),cD (eL hlt),bA0 hy,aB,aJ,kE (n:=x[k]) (by omega) (by omega)];generalize x[k]=xk at*;generalize dig y k=yk at*;rw[w64 (xk-yk),w64 ((xk-yk)%18446744073709551616-c),w32];rw[aC (by show(out.length+1)*4<=_;omega),aS (by omega) (by omega),aJ];have e2:(2:Int)^63=9223372036854775808:=by decide
   rw[e2];have e3:((k:Int)+1)=((k+1:Nat):Int):=by omega
   rw[e3];refine aLr hx hy hN hM hge m (k+1) _ _ (pS.2 ⟨ho,by omega,trivial⟩) (by rw[ι,hk];rfl) (by omega) (by omega) (by omega) ?_;rw[aQm,hk,Ws];have e4:xk-yk-c=((xk-yk)%18446744073709551616-c)%18446744073709551616%4294967296-4294967296*(((xk-yk)%18446744073709551616-c)%18446744073709551616/9223372036854775808):=by omega
   generalize((xk-yk)%18446744073709551616-c)%18446744073709551616%4294967296=d at*;generalize((xk-yk)%18446744073709551616-c)%18446744073709551616/9223372036854775808=q at*;rw[ex,ey]at hinv
   grind
  ·have hkM':k=x.length:=by omega
   subst hkM';rw[aI (aIv hlt),aJ];rw[gH (l:=x) (τ _)]at hinv;have h1:=rC ho;have h2:=mU (gZ x.length hy);rw[hk]at h1;have hc0:c+lv (y.drop x.length)=0:=by
    apply Int.le_antisymm _ (by omega);apply Int.not_lt.1;intro h;have:=aWn (k:=x.length) (show 1<=c+lv (y.drop x.length) by omega);have e:W x.length*(0-lv (y.drop x.length)-c)=-(W x.length*(c+lv (y.drop x.length))):=by grind
    omega
   have e:W x.length*(0-lv (y.drop x.length)-c)=-(W x.length*(c+lv (y.drop x.length))):=by grind
   rw[e,hc0,ik]at hinv;rw[rV ho (by omega) (by omega),aB,show lv out=lv x-lv y by omega]
theorem aK2(hab:b<=a)(h1:(dg a).length<=100000000)(hN:100000001<N):dQ N (dg a) (dg b)=some (dg (a-b)):=by
 unfold dQ;have:=aLr (N:=N) (cP a) (cP b) (by omega) (by omega) (by rw[gI,gI];omega) N 0 0 [] trivial rfl (by omega) (by omega) (by omega) (by
  rw[W0,cc,cc];show 0+1*(_-_-0)=_;omega)
 rw[gI,gI]at this;have e2:((a:Int)-(b:Int)).toNat=a-b:=by omega
 rw[e2]at this;exact this
theorem aMd{N:Nat}{x:List Int}{b:Int}(hx:LOk x)(hb:0<b/\b<4294967296)(hM:x.length<=1000000000000)(hN:x.length<N):∀(m k:Nat) (rest:Int) (out:List Int),LOk out->out.length=x.length->k<=x.length->k<m->(0<=rest/\rest<b)->lv (out.take k)=0->
  lv (out.drop k)*b+rest=lv (x.drop k)->kU N m x b rest ((k:Int)-1) out=some (dg (lv x/b).toNat,lv x%b)
 |0,_,_,_,_,_,_,h,_,_,_=>absurd h (cj _)
 |m+1,k,rest,out,ho,hol,hkx,hm,hr,h0,hinv=>by
  show kS N (kU N m) x b rest _ out=_;unfold kS;cases k with
  |zero=>
   rw[aI (by decide),aJ,rV ho (by omega) (by omega),aB,aNy (by omega)];rw[cc,cc]at hinv;have e1:lv x/b=lv out:=by rw[<-hinv,Int.add_comm,nz,Int.add_mul_ediv_left _ _ (by omega),mr hr.1 hr.2,mu]
   have e2:lv x%b=rest:=by rw[<-hinv,Int.add_comm,nz,Int.add_mul_emod_self_left,Int.emod_eq_of_lt hr.1 hr.2]
   rw[e1,e2]
  |succ k=>
   have hk:k<x.length:=by omega
   have dx:=cO hx (eL hk);have ex:=eY (eL hk);have hko:k<out.length:=by omega
   have e0:(((k+1:Nat):Int)-1)=(k:Int):=by omega
   have e32:(2:Int)^32=4294967296:=by decide
   rw[e0,aH (decide_eq_true (by omega)),cD (eL hk),kE (n:=b) (by omega) (by omega),aC (by omega),aC (by omega),aC (by omega),aC (by omega),ξ,aCm (eL hko),aS (by omega) (by omega),e32,kE (n:=rest*4294967296) (by omega) (by omega),kE (n:=x[k]) (by omega) (by omega),aRt (by omega) dx];generalize x[k]=d at*;have hn:0<=rest*4294967296+d:=by omega
   rw[Int.tdiv_eq_ediv_of_nonneg hn,Int.tmod_eq_emod_of_nonneg hn];have hq0:0<=(rest*4294967296+d)/b:=l6 hn (by omega);have hq1:(rest*4294967296+d)/b<4294967296:=by apply Int.ediv_lt_of_lt_mul (by omega);have:=dc (show rest+1<=b by omega) (show(0:Int)<=4294967296 by decide);omega
   have hr0:0<=(rest*4294967296+d)%b:=Int.emod_nonneg _ (by omega);have hr1:(rest*4294967296+d)%b<b:=Int.emod_lt_of_pos _ (by omega);have hqr:=Int.mul_ediv_add_emod (rest*4294967296+d) b;rw[kE (n:=(rest*4294967296+d)/b) hq0 (by omega),aNy ⟨hq0,hq1⟩];have hz:out[k]?=some 0:=by
    have h1:=aE9 (eL hko);rw[h0]at h1;have h2:=mU (eC k ho);have h3:=cO ho (eL hko);have h4:=bBc (k:=k) h3.1;have:out[k]=0:=by
     rcases ma h3.1 with h|h
     ·have:=aWn (k:=k) (show 1<=out[k] by omega);have:=Wp k;omega
     ·exact h.symm
    rw[eL hko,this]
   have hl2:∀q:Int,(out.set k q).length=out.length:=fun q=>ef;rw[aFq (hl2 _).symm];refine aMd hx hb hM hN m k _ _ (aJi ho ⟨hq0,hq1⟩) (by rw[hl2,hol]) (by omega) (by omega) ⟨hr0,hr1⟩ ?_ ?_
   ·rw[nk (τ _)];have h1:=aE9 hz;rw[h0,ik,il]at h1;exact h1.symm
   ·rw[eY (d:=(rest*4294967296+d)/b) (by rw[jr hko]),j6 (by omega),ex,<-hinv];generalize(rest*4294967296+d)/b=q at*;generalize(rest*4294967296+d)%b=r at*;generalize lv (out.drop (k+1))=o at*
    grind
theorem bLz{l:List Int}(h:LOk l)(h0:lv l=0){d:Int}(e:l[j]?=some d):d=0:=by
 have h1:=eJ l j (kj (χ.1 e).1);have h2:=eY e;have h3:=mU (eC j h);have h4:=mU (gZ (j+1) h);have h5:=cO h e;rcases ma h5.1 with hh|hh
 ·have:=aWn (k:=j) (show 1<=lv (l.drop j) by omega);have:=Wp j;omega
 ·exact hh.symm
theorem aMk(hy:LOk y){i:Nat}{a:Int}(ha:0<=a/\a<4294967296){m:Nat}{c:Int}{d:Int}(ho:LOk out)(hd:out[i+k]?=some d)(hc:0<=c/\c<4294967296)(hb:i+k<=1000000000000)
  (hcond:k<y.length\/0<c):bL N rec3 (m+1) y (i:Int) a c (k:Int) xs X J out=
   bL N rec3 m y (i:Int) a ((a*dig y k+d+c)/4294967296) ((k+1:Nat):Int) xs X J (out.set (i+k) ((a*dig y k+d+c)%4294967296)):=by
 have hdd:=cO ho hd;have hko:=(χ.1 hd).1;have dy:=aR4 hy k;have hay0:=ic ha.1 dy.1;have hay:a*dig y k<=4294967295*4294967295:=Int.mul_le_mul (by omega) (by omega) dy.1 (by decide);show eD N rec3 (bL N rec3 m) y _ a c _ xs X J out=_;unfold eD;have key:(if? (decide ((k:Int)<((y.length:Nat):Int))) (gl? (out.length) (out) (some (y,(i:Int),a,c,(k:Int),xs,X,J,true,out))) (gl? (out.length) (out) (some (y,(i:Int),a,c,(k:Int),xs,X,J,decide (c>0),out))))=some (y,(i:Int),a,c,(k:Int),xs,X,J,true,out):=by
  rw[aJ,aJ,bQf];by_cases h:k<y.length
  ·rw[if_pos (aLg h)]
  ·rw[if_neg (by rw[aIv h];decide),decide_eq_true (by omega)]
 rw[key,aB];have e1:((i:Int)+(k:Int)).toNat=i+k:=by omega
 have e32:(2:Int)^32=4294967296:=by decide
 show if? true (bd? (dO N y (k:Int)) fun v21=>ck .i64 ((i:Int)+(k:Int)) (gd? (0<=(i:Int)+(k:Int)) (gd? ((i:Int)+(k:Int)<((out.length:Nat):Int)) (gn? out ((i:Int)+(k:Int)).toNat fun x22=>ck .i64 ((i:Int)+(k:Int)) (gd? (0<=(i:Int)+(k:Int)) (gd? ((i:Int)+(k:Int)<((out.length:Nat):Int)) (gn? out ((i:Int)+(k:Int)).toNat fun x23=>ck .i64 ((k:Int)+1) (gl? (out.length) (List.set out ((i:Int)+(k:Int)).toNat (δ .u32 (δ .u64 ((δ .u64 ((δ .u64 ((δ .u64 a)*v21))+(δ .u64 x22)))+c)))) (bL N rec3 m y (i:Int) a ((δ .u64 ((δ .u64 ((δ .u64 ((δ .u64 a)*v21))+(δ .u64 x22)))+c))/(2^32)) ((k:Int)+1) xs X J (List.set out ((i:Int)+(k:Int)).toNat (δ .u32 (δ .u64 ((δ .u64 ((δ .u64 ((δ .u64 a)*v21))+(δ .u64 x22)))+c))))))))))))) _=_;rw[bS,bA0 hy,aB,aS (by omega) (by omega),aC (by omega),aC (by omega),e1,aCm hd,aS (by omega) (by omega),aC (by omega),aC (by omega),aCm hd,aS (by omega) (by omega),kE (n:=a) (by omega) (by omega),kE (n:=a*dig y k) hay0 (by omega),kE (n:=d) (by omega) (by omega),kE (n:=a*dig y k+d) (by omega) (by omega),kE (n:=a*dig y k+d+c) (by omega) (by omega),w32,e32,aFq (by rw[ef])];rw[show((k:Int)+1)=((k+1:Nat):Int) by omega]
theorem aP0{i:Int}{a:Int}{m:Nat}(hk:y.length<=k)(hJ:0<=J/\J<=1000000000000):
  bL N rec3 (m+1) y i a 0 (k:Int) xs X J out=rec3 y xs X (J+1) out:=by show eD N rec3 (bL N rec3 m) y _ a 0 _ xs X J out=_;unfold eD;rw[aI (aIv (by omega)),aJ,aB];show if? (decide ((0:Int)>0)) _ (ck .i64 (J+1) (gl? out.length out (rec3 y xs X (J+1) out)))=_;rw[aI (by decide),aS (by omega) (by omega),aJ]
theorem aM8{N:Nat}{y:List Int}(hy:LOk y){i:Nat}{a:Int}(ha:0<=a/\a<4294967296){xs:List Int}{X J:Int}{rec3:List Int->List Int->Int->Int->List Int->Option TC}(hJ:0<=J/\J<=1000000000000){P:Int}:∀(m k:Nat) (c:Int) (out:List Int),LOk out->i+y.length<out.length->out.length<=1000000000000->k<=y.length->y.length-k+2<=m->(0<=c/\c<4294967296)->lv (out.drop (i+y.length))=0->
  lv out+W (i+k)*c=P+W i*a*lv (y.take k)->∃out',bL N rec3 m y (i:Int) a c (k:Int) xs X J out=rec3 y xs X (J+1) out'/\LOk out'/\out'.length=out.length/\lv out'=P+W i*a*lv y/\lv (out'.drop (i+y.length+1))=0
 |0,_,_,_,_,_,_,_,h,_,_,_=>by omega
 |m+1,k,c,out,ho,hol,hb,hk,hm,hc,h0,hinv=>by
  by_cases hlt:k<y.length
  ·obtain⟨d,hd⟩:∃d,out[i+k]?=some d:=⟨_,eL (by omega)⟩;have hdd:=cO ho hd;have dy:=cO hy (eL hlt);have edig:dig y k=y[k]:=by unfold dig;rw[az,eL hlt];rfl
   have hay0:=ic ha.1 dy.1;have hay:a*y[k]<=4294967295*4294967295:=Int.mul_le_mul (by omega) (by omega) dy.1 (by decide);rw[aMk hy ha ho hd hc (by omega) (.inl hlt),edig];have hset:=aW6 (e:=(a*y[k]+d+c)%4294967296) hd;have hty:=aE9 (eL hlt);generalize y[k]=yk at*;have hdm:a*yk+d+c=(a*yk+d+c)%4294967296+4294967296*((a*yk+d+c)/4294967296):=by omega
   have b1:0<=(a*yk+d+c)/4294967296/\(a*yk+d+c)/4294967296<4294967296:=by omega
   have b2:0<=(a*yk+d+c)%4294967296/\(a*yk+d+c)%4294967296<4294967296:=by omega
   generalize(a*yk+d+c)/4294967296=q at*;generalize(a*yk+d+c)%4294967296=r at*;obtain⟨out',r1,r2,r3,r4,r5⟩:=aM8 (N:=N) (i:=i) hy ha (xs:=xs) (X:=X) (rec3:=rec3) hJ (P:=P) m (k+1) q (out.set (i+k) r) (aJi ho b2) (by rw[ef];omega) (by rw[ef];omega) (by omega) (by omega) b1 (by rw[j6 (by omega)];exact h0) (by
    rw[hset,show i+(k+1)=(i+k)+1 by omega,Ws (i+k),hty,Wa i k];rw[Wa i k]at hinv
    grind)
   exact⟨out',r1,r2,by rw[r3,ef],r4,r5⟩
  ·have hky:k=y.length:=by omega
   subst hky;rw[bk (τ _)]at hinv;have h0':lv (out.drop (i+y.length+1))=0:=by obtain⟨d,hd⟩:∃d,out[i+y.length]?=some d:=⟨_,eL (by omega)⟩;have h1:=eY hd;have h2:=cO ho hd;have h3:=mU (gZ (i+y.length+1) ho);omega
   by_cases hc0:c=0
   ·subst hc0;rw[aP0 (τ _) hJ];rw[ik,il]at hinv;exact⟨out,rfl,ho,rfl,hinv,h0'⟩
   ·obtain⟨d,hd⟩:∃d,out[i+y.length]?=some d:=⟨_,eL (by omega)⟩;have hd0:d=0:=by have:=bLz (gZ (i+y.length) ho) h0 (j:=0) (d:=d) (by rw[List.getElem?_drop];exact hd);exact this
    subst hd0;have edig:dig y y.length=0:=by unfold dig;rw[az,bw (τ _)];rfl
    rw[aMk hy ha ho hd hc (by omega) (.inr (by omega)),edig,ik,mu,mu,mr hc.1 hc.2,Int.emod_eq_of_lt hc.1 hc.2];cases m with
    |zero=>omega
    |succ m=>
     rw[aP0 (by omega) hJ];refine⟨_,rfl,aJi ho hc,ef,?_,?_⟩
     ·rw[aW6 hd,Int.sub_zero];omega
     ·rw[j6 (by omega)];exact h0'
theorem aLm{N:Nat}{x y:List Int}(hx:LOk x)(hy:LOk y)(hb:x.length+y.length<=100000000)(hN:100000004<N):∀(m i:Nat) (out:List Int),LOk out->out.length=x.length+y.length+1->i<=x.length->x.length-i<m->lv out=lv (x.take i)*lv y->lv (out.drop (i+y.length))=0->dZ N m y x (x.length:Int) (i:Int) out=some (dg (lv x*lv y).toNat)
 |0,_,_,_,_,_,h,_,_=>absurd h (cj _)
 |m+1,i,out,ho,hol,hi,hm,hinv,h0=>by
  show kM N (dZ N m) y x _ _ out=_;unfold kM;by_cases hlt:i<x.length
  ·have dx:=cO hx (eL hlt);have ht:=aE9 (eL hlt);rw[aH (aLg hlt),cD (eL hlt),aJ];obtain⟨out',r1,r2,r3,r4,r5⟩:=aM8 (N:=N) hy dx (i:=i) (xs:=x) (X:=(x.length:Int)) (J:=(i:Int)) (rec3:=dZ N m) (by omega) (P:=lv (x.take i)*lv y) N 0 0 out ho (by omega) (by omega) (fo _) (by omega) (by decide) h0 (by
    rw[iq];show lv out+W (i+0)*0=_+W i*x[i]*0;rw[hinv];omega)
   show bL N (dZ N m) N y (i:Int) x[i] 0 ((0:Nat):Int) x (x.length:Int) (i:Int) out=_;rw[r1,show(i:Int)+1=((i+1:Nat):Int) by omega];refine aLm hx hy hb hN m (i+1) out' r2 (by omega) (by omega) (by omega) ?_ (by rw[show i+1+y.length=i+y.length+1 by omega];exact r5);rw[r4,ht];grind
  ·have:i=x.length:=by omega
   subst this;rw[aI (aIv hlt),aJ,rV ho (by omega) (by omega),aB,hinv,bk (τ _)]
theorem aTq(hb:0<b/\b<4294967296)(h1:(dg a).length<=100000000)(hN:100000004<N):eT N (dg a) (b:Int)=some (dg (a/b),((a%b:Nat):Int)):=by
 unfold eT;rw[aC (by omega),aC (by omega),aC (by omega),aC (by omega),aS (by omega) (by omega),aFq (by rw[di]),ξ];rw[aMd (cP a) (b:=(b:Int)) (by omega) (by omega) (by omega) N (dg a).length 0 _ (aJ1 _) (by rw[di]) (τ _) (by omega) (by omega) (by rw[List.take_replicate,aNc]) (by rw[gH (by rw[di];exact τ _),gH (τ _)];omega)];rw[gI];have e1:((a:Int)/(b:Int)).toNat=a/b:=by rw[<-Int.natCast_ediv,ξ]
 have e2:(a:Int)%(b:Int)=((a%b:Nat):Int):=(Int.natCast_emod a b).symm;rw[e1,e2]
theorem aHl(hx:LOk x)(hy:LOk y)(hb:x.length+y.length<=100000000)(hN:100000004<N):cU N x y=some (dg (lv x*lv y).toNat):=by
 unfold cU;have e:(((x.length:Nat):Int)+((y.length:Nat):Int)+1).toNat=x.length+y.length+1:=by omega
 rw[aS (by omega) (by omega),aS (by omega) (by omega),aC (by omega),aC (by omega),aC (by omega),aC (by omega),aFq (by rw[di]),e];have h0:lv ((ω (x.length+y.length+1) (0:Int)).drop (0+y.length))=0:=by rw[List.drop_replicate,aNc]
 exact aLm hx hy hb hN N 0 _ (aJ1 _) (by rw[di]) (fo _) (by omega) (by
  rw[aNc,iq];show(0:Int)=0*_;omega) h0
theorem bEa(hb:(dg a).length+(dg b).length<=100000000)(hN:100000004<N):cU N (dg a) (dg b)=some (dg (a*b)):=by rw[aHl (cP a) (cP b) hb hN,gI,gI,<-ew,ξ]
theorem aXo(hn:n<=31)(hb:(dg a).length<=90000000)(hN:100000004<N):bT N (dg a) (n:Int)=some (dg (a*2^n)):=by
 unfold bT;have e0:(((gm .u32):Nat):Int)=32:=rfl;have hp:(2:Nat)^n<=2147483648:=by have:=dw (n:=2) (by decide) hn;exact this
 have hp0:0<(2:Nat)^n:=Nat.pow_pos (by decide);have e1:(1*(2:Int)^(n:Int).toNat)=((2^n:Nat):Int):=by rw[ξ,Int.one_mul,nh];rfl
 rw[aI (decide_eq_false (by omega)),aC (by omega),aC (by omega),e1,aNy (by omega),aHl (cP a) (by exact⟨by omega,trivial⟩) (by show _+1<=_;omega) hN,aB,aKj,gI,<-ew,ξ]
theorem bNw(hn:n<=31)(hn0:0<n)(hb:(dg a).length<=90000000)(hN:100000004<N):bT N (dg a) (-(n:Int))=some (dg (a/2^n)):=by
 unfold bT;have e0:(((gm .u32):Nat):Int)=32:=rfl;have hp:(2:Nat)^n<=2147483648:=by have:=dw (n:=2) (by decide) hn;exact this
 have hp0:0<(2:Nat)^n:=Nat.pow_pos (by decide);have e1:(1*(2:Int)^(-(-(n:Int))).toNat)=((2^n:Nat):Int):=by rw[Int.neg_neg,ξ,Int.one_mul,nh];rfl
 rw[aH (decide_eq_true (by omega)),aS (by omega) (by omega),aC (by omega),aC (by omega),e1,aNy (by omega),aTq (by omega) (by omega) hN,aB]
theorem bJw(hb:(dg a).length<=90000000)(hN:100000004<N):bT N (dg a) (-((0:Nat):Int))=some (dg a):=by have:=aXo (N:=N) (a:=a) (n:=0) (by decide) hb hN;rw[oa,Nat.mul_one]at this;exact this
def nbA:Nat->List UInt8->Nat
 |a,[]=>a
 |a,b::l=>nbA (256*a+b.toNat) l
def nb(s:List UInt8):Nat:=nbA 0 s
theorem aYh:∀(l:List UInt8) (a:Nat),nbA a l=a*256^l.length+nb l
 |[],a=>by show a=a*256^0+0;omega
 |b::l,a=>by
  show nbA (256*a+b.toNat) l=a*256^(l.length+1)+nbA (256*0+b.toNat) l;rw[aYh l,aYh l (256*0+b.toNat),lh]
  grind
theorem aBj(b:UInt8)(l:List UInt8):nb (b::l)=b.toNat*256^l.length+nb l:=by show nbA (256*0+b.toNat) l=_;rw[aYh];congr 2;omega
theorem aQb:∀(a c:List UInt8),nb (a++c)=nb a*256^c.length+nb c
 |[],c=>by show nb c=0*_+nb c;omega
 |b::a,c=>by
  rw[List.cons_append,aBj,aQb a c,aBj,ι,Nat.pow_add]
  grind
theorem wH:∀(l:List UInt8),nb l<256^l.length
 |[]=>by decide
 |b::l=>by
  rw[aBj,List.length_cons,lh];have:=wH l;have hb:b.toNat<=255:=by have:=b.toNat_lt;omega
  have:=cq (256^l.length) hb;omega
theorem aS0(a:List UInt8)(b:UInt8):nb (a++[b])=256*nb a+b.toNat:=by rw[aQb,aBj];show nb a*256^1+(b.toNat*256^0+0)=_;omega
theorem bBg(x y:Nat)(hx:x<4294967296)(hy:y<4294967296):bits .or .u32 (x:Int) (y:Int)=((x|||y:Nat):Int):=by show δ .u32 ((j0 32 x|||j0 32 y).toNat:Int)=_;rw[BitVec.toNat_or,iw,iw,jk,jk,ji (by simpa using hx),ji (by simpa using hy)];have:=Nat.or_lt_two_pow (n:=32) (by simpa using hx) (by simpa using hy);exact aNy (by omega)
theorem bLl{x y:Nat}(hx:x<16777216)(hy:y<256):bits .or .u32 ((x:Int)*256) (y:Int)=((256*x+y:Nat):Int):=by
 have h:=bBg (x*256) y (by omega) (by omega);have e:=Nat.two_pow_add_eq_or_of_lt (i:=8) (b:=y) (by omega) x;rw[show x*256=2^8*x by omega,<-e]at h;have e2:(((2^8*x:Nat):Int))=(x:Int)*256:=by omega
 rw[e2]at h;rw[h]
theorem bEi(c:List UInt8)(k:Nat)(h:k<c.length):(aE c)[k]?=some ((c[k].toNat:Nat):Int):=by unfold aE;rw[List.getElem?_map,eL h];rfl
theorem bIb(c:List UInt8):(aE c).length=c.length:=by unfold aE;rw[κ]
theorem aL3{rec2:Str->Int->List Int->Option TC}{s:Str}{e:Int}{x:List Int}{c:List UInt8}(hc:c.length<=4)(he:0<=e/\e<=1000000000000)(hx:x.length<=1000000000000):∀(m k:Nat),k<=c.length->c.length-k<m->
  xP rec2 m s e ((nb (c.take k):Nat):Int) (aE c) ((c.length:Nat):Int) (k:Int) x=rec2 s (e-4) (x++[((nb c:Nat):Int)])
 |0,_,_,h=>absurd h (cj _)
 |m+1,k,hk,hm=>by
  show wY rec2 (xP rec2 m) s e _ _ _ _ x=_;unfold wY;by_cases hlt:k<c.length
  ·have hb:c[k].toNat<256:=c[k].toNat_lt;have h1:=wH (c.take k);have h2:256^(c.take k).length<=256^3:=dw (by decide) (by rw[bn];omega);have h3:nb (c.take k)<16777216:=dm h1 h2;have e8:(2:Int)^8=256:=by decide
   rw[aH (aLg hlt),cD (bEi c k hlt),aS (by omega) (by omega),aJ,e8,aNy (by omega),aNy (by omega),bLl h3 hb];have:=aL3 (rec2:=rec2) (s:=s) hc he hx m (k+1) (by omega) (by omega);rw[jx hlt,aS0]at this;exact this
  ·rw[aI (aIv hlt),aJ,aC (by show(x.length+1)*4<=_;omega),aS (by omega) (by omega),aJ,bk (by omega)]
theorem aOe{N:Nat}{s:Str}(hs:s.length<=100000000)(hN:100000004<N):∀(m:Nat) (e:Int) (x:List Int),LOk x->x.length+e.toNat<=100000000->e<=s.length->e.toNat<m->lv x+W x.length*((nb (s.take e.toNat):Nat):Int)=((nb s:Nat):Int)->rI N m s e x=some (dg (nb s))
 |0,_,_,_,_,_,h,_=>absurd h (cj _)
 |m+1,e,x,hx,hb,he,hm,hinv=>by
  show yA N (rI N m) s e x=_;unfold yA;by_cases hpos:0<e
  ·obtain⟨n,rfl⟩:=iy (jy hpos);rw[ξ]at*;have em:(Max.max 0 ((n:Int)-4)).toNat=n-4:=by omega
   rw[aH (decide_eq_true hpos),aS (by omega) (by omega),aC (by omega),aC (by omega),aC (by omega),aC (by omega),aJ,em];generalize hc:cm (n-(n-4)) (df (n-4) s)=c;have hcl:c.length=n-(n-4):=by rw[<-hc,bn,aw];omega
   have h:=aL3 (rec2:=rI N m) (s:=s) (e:=(n:Int)) (x:=x) (c:=c) (by omega) (by omega) (by omega) N 0 (fo _) (by omega);rw[bIb];rw[iq]at h;refine h.trans ?_;have hcv:=wH c;have hc4:256^c.length<=256^4:=dw (by decide) (by omega);have htk:s.take n=s.take (n-4)++c:=by rw[<-hc];have:=gv (n-4) (s.take n);rw[List.take_take,List.drop_take,gn (by omega)]at this;exact this.symm
   have e4:((n:Int)-4).toNat=n-4:=by omega
   refine aOe hs hN m _ _ (pS.2 ⟨hx,by omega,trivial⟩) (by rw[ι,e4];show x.length+1+_<=_;omega) (by omega) (by omega) ?_;rw[e4,aQm,ι];show _+W (x.length+1)*_=_;rw[Ws,<-hinv,htk,aQb];by_cases h4:4<=n
   ·rw[hcl,show n-(n-4)=4 by omega];generalize nb (s.take (n-4))=p;generalize nb c=q;have:((p*256^4+q:Nat):Int)=(p:Int)*4294967296+(q:Int):=by rw[ni,ew];rfl
    rw[this];grind
   ·rw[show n-4=0 by omega,iq];show lv x+W x.length*(nb c:Int)+4294967296*W x.length*((0:Nat):Int)=lv x+W x.length*((0*256^c.length+nb c:Nat):Int);rw[Nat.zero_mul,Nat.zero_add];show _+4294967296*W x.length*0=_;rw[ik,il]
  ·have e0:e.toNat=0:=by omega
   rw[e0,iq]at hinv;have hinv:lv x+W x.length*0=((nb s:Nat):Int):=hinv;rw[ik,il]at hinv;rw[aI (decide_eq_false (by omega)),aJ,rV hx (by omega) (by omega),aB,hinv,ξ]
theorem pT(hs:s.length<=100000000)(hN:100000004<N):dE N s=some (dg (nb s)):=by unfold dE;refine aOe hs hN N _ [] trivial (by show 0+_<=_;omega) (Int.le_refl _) (by omega) ?_;rw[ξ,m7];show 0+W 0*_=_;rw[W0];omega
theorem aT1(h:xs.length<=1000000000000):bD N xs=some xs:=by
 unfold bD;by_cases h0:0<xs.length
 ·rw[aH (decide_eq_true h0),aC (by omega),aJ]
 ·have:xs=[]:=de.1 (by omega);subst this;rfl
theorem bOv(hj:j+n<=rest.length)(hd:d.length<=n):aVq ((cm j rest++ω n 0)++df (j+n) rest) j n d=cm j rest++(d++(ω (n-d.length) 0++df (j+n) rest)):=by
 unfold aVq;have hl:(cm j rest).length=j:=by rw[bn];omega
 rw[gn hd,bk (τ _),υ (cm j rest) (ω n 0),List.take_left' hl,υ];congr 2;rw[List.drop_append,hl,List.drop_of_length_le (by omega),List.nil_append,show j+d.length-j=d.length by omega,ee (by rw[di];exact hd),List.drop_replicate]
def nx(rest:List Int)(j n:Nat)(d:List Int):List Int:=cm j rest++(d++(ω (n-d.length) 0++df (j+n) rest))
theorem aWp(hj:j+n<=rest.length)(hd:d.length<=n):(nx rest j n d).length=rest.length:=by unfold nx;rw[ι,ι,ι,bn,di,aw];omega
theorem bTg(hr:LOk rest)(hd:LOk d):LOk (nx rest j n d):=
 pS.2 ⟨eC _ hr,pS.2 ⟨hd,pS.2 ⟨aJ1 _,gZ _ hr⟩⟩⟩
theorem aYx(hj:j+n<=rest.length)(hd:d.length<=n):lv ((nx rest j n d).drop j)=lv d+W n*lv (rest.drop (j+n)):=by unfold nx;rw[List.drop_left' (by rw[bn];omega),vR,vR,aNc,di,mu,<-Int.mul_assoc,<-Wa,show d.length+(n-d.length)=n by omega]
theorem bRb(hj:j+n<=rest.length)(hd:d.length<=n):lv (nx rest j n d)=lv rest-W j*(lv ((rest.drop j).take n)-lv d):=by
 have h1:=eJ (nx rest j n d) j (by rw[aWp hj hd];omega);have h2:=eJ rest j (by omega);have h3:=eJ (rest.drop j) n (by rw[aw];omega);rw[dv]at h3;rw[aYx hj hd]at h1;have h4:(nx rest j n d).take j=rest.take j:=by unfold nx;exact List.take_left' (by rw[bn];omega)
 rw[h4]at h1;rw[h1,h2,h3]
 grind
theorem aJn{a b:Int}:decide (kK a b<0)=decide (a<b):=by
 unfold kK;split
 ·rename_i h;simp[h]
 ·rename_i h;split<;>simp[h]
theorem by3{N V:Nat}{rest:List Int}(hr:LOk rest){j n:Nat}(hj:j+(n+1)<=rest.length)(hb:rest.length<=100000000)(hN:100000004<N)(hV:0<V)(hVn:(V:Int)<W n){P:Nat}(hP:lv ((rest.drop j).take (n+1))=P){q:List Int}(hq:j<q.length){bits:Int}:∀(m k:Nat),k<4294967296->P/V<=k->k-P/V<m->
  jZ N m bits (dg V) (n:Int) (j:Int) (k:Int) (j:Int) ((n+1:Nat):Int) (dg (k*V)) rest q=some (bits,dg V,(n:Int),(j:Int),nx rest j (n+1) (dg (P%V)),q.set j ((P/V:Nat):Int))
 |0,_,_,_,h=>absurd h (cj _)
 |m+1,k,hk,hge,hm=>by
  show pN N (jZ N m) _ _ _ _ _ _ _ _ _ _=_;unfold pN;have hl:((rest.drop j).take (n+1)).length=n+1:=by rw[bn,aw];omega
  have ho:LOk ((rest.drop j).take (n+1)):=eC _ (gZ _ hr);have ht:aY N ((rest.drop j).take (n+1))=some (dg P):=by rw[rV ho (by omega) (by omega),hP,ξ]
  have hPl:(dg P).length<=n+1:=sN (by have:=rC ho;rw[hl,hP]at this;exact this);have hkl:(dg (k*V)).length<=n+1:=sN (by
   rw[ew,Ws];have w:=Wp n;have a1:(k:Int)*(V:Int)<=k*W n:=dc (by omega) (by omega);have a2:(k:Int)*W n<=4294967295*W n:=c7 (by omega) (by omega);omega)
  have hdm:=l7 P V;have hml:=jt P hV;rw[ξ,ξ,aC (by omega),aT1 (by omega),aB,aJ,ht,aB,xF (by omega) (by omega) (by omega),aB,aJn];by_cases hlt:P<k*V
  ·have hk1:1<=k:=by
    rcases gk k with h|h
    ·subst h;omega
    ·exact h
   have hlt':P/V<k:=nf (by rw[j5];exact hlt);have hVk:V<=k*V:=Nat.le_mul_of_pos_left V hk1;rw[aH (aLg hlt),aK2 hVk (by omega) (by omega),aB,aJ,aJ,kE (by omega) (by omega)];have e1:((k:Int)-1)=((k-1:Nat):Int):=by omega
   have e2:k*V-V=(k-1)*V:=by rw[Nat.sub_mul,Nat.one_mul]
   rw[e1,e2];exact by3 hr hj hb hN hV hVn hP hq m (k-1) (by omega) (by omega) (by omega)
  ·have hk':k=P/V:=by have:=(Nat.le_div_iff_mul_le hV).2 (la hlt);omega
   have hd:(dg (P-k*V)).length<=n+1:=by
    apply sN;have:((P-k*V:Nat):Int)<=P:=by omega
    have:=rC ho;rw[hl,hP]at this;omega
   rw[aI (aIv hlt),aC (by omega),aB,aJ,ht,aB,aK2 (la hlt) (by omega) (by omega),aB,aC (by omega),aC (by rw[ι,ι,bn,di,aw];omega),aC (by omega),aC (by omega),aCm (eL hq),aNy (by omega)];rw[bOv hj hd];have hn:=aWp hj hd;unfold nx at hn;rw[aFq hn.symm,aFq (by rw[ef])];have e:P-k*V=P%V:=by rw[hk',j5];omega
   rw[e,hk'];rfl
structure Dg (rest q rest' q':List Int) (j V P:Nat):Prop where
 ok:LOk rest'
 len:rest'.length=rest.length
 val:lv rest'=lv rest-W j*((P/V*V:Nat):Int)
 low:lv (rest'.drop j)=((P%V:Nat):Int)
 qok:LOk q'
 qlen:q'.length=q.length
 qval:lv q'=lv q+W j*((P/V:Nat):Int)
 qz:∀i,i<j->q'[i]?=q[i]?
theorem bLm(hr:LOk rest)(hj:j+(n+1)<=rest.length)(hb:rest.length<=100000000)(hN:8589934592<N)(hV:0<V)(hVn:(V:Int)<W n)(hP:lv ((rest.drop j).take (n+1))=P)(hP0:lv (rest.drop (j+(n+1)))=0)(hhi:P<4294967296*V)(hqo:LOk q)(hq0:∀d,q[j]?=some d->d=0)(hq:j<q.length){bt:Int}(hk:k<4294967296)(hge:P/V<=k):
  ∃rest' q',jZ N N bt (dg V) (n:Int) (j:Int) (k:Int) (j:Int) ((n+1:Nat):Int) (dg (k*V)) rest q=some (bt,dg V,(n:Int),(j:Int),rest',q')/\Dg rest q rest' q' j V P:=by
 have hl:((rest.drop j).take (n+1)).length=n+1:=by rw[bn,aw];omega
 have hg:P/V<4294967296:=nf (by rw[j5];exact hhi);have hpv:(0:Int)<=(P:Int)/(V:Int):=l6 (by omega) (by omega);have hdm:=l7 P V;have hml:=jt P hV;have hd:(dg (P%V)).length<=n+1:=sN (by
  have w:=Wp n;rw[Ws];omega)
 refine⟨_,_,by3 hr hj hb (by omega) hV hVn hP hq N k hk hge (by omega),⟨bTg hr (cP _),aWp hj hd,?_,?_,aJi hqo (by omega),ef ..,?_,fun i hi=>iz (by omega)⟩⟩
 ·rw[bRb hj hd,hP,gI];congr 2;rw[j5 (P/V)];omega
 ·rw[aYx hj hd,hP0,gI,ik,il]
 ·rw[aW6 (eL hq),hq0 _ (eL hq),Int.sub_zero]
theorem by2{N V:Nat}{rest:List Int}(hr:LOk rest){j n:Nat}(hn:2<=n)(hj:j+(n+1)<=rest.length)(hb:rest.length<=80000000)(hN:8589934592<N)(hV:0<V)(hVn:(V:Int)<W n)(hVl:(dg V).length=n){P:Nat}(hP:lv ((rest.drop j).take (n+1))=P)(hP0:lv (rest.drop (j+(n+1)))=0)(hhi:P<4294967296*V){q:List Int}(hqo:LOk q)(hq0:∀d,q[j]?=some d->d=0)
  {v1 v2 vl r3 top low w:Int} (hvd:(V:Int)=v1*(4294967296*w)+v2*w+vl) (hPd:(P:Int)=top*(4294967296*w)+r3*w+low) (hw:0<w) (hl:low<w) (hvl:0<=vl)
  (gv1:(dg V)[n-1]?=some v1) (gv2:(dg V)[n-2]?=some v2) (gr3:rest[j+n-2]?=some r3) (hv1:2147483648<=v1) (htop:0<=top/\top<18446744073709551616) (hq:2147483648<=top->j<q.length) {bt:Int}:∀(m k:Nat) (l:Int),l=top-k*v1->0<=l->k<4294967296->P/V<=k->k<m->
  ∃rest' q',pH N m bt (dg V) (n:Int) (j:Int) (k:Int) l rest q=some (bt,dg V,(n:Int),(j:Int),rest',q')/\Dg rest q rest' q' j V P
 |0,_,_,_,_,_,_,h=>absurd h (cj _)
 |m+1,k,l,hle,hl0,hk,hge,hm=>by
  show∃rest' q',pG N (pH N m) _ _ _ _ _ _ _ _=_/\_;unfold pG;have dv1:=cO (cP V) gv1;have dv2:=cO (cP V) gv2;have dr3:=cO hr gr3;have hjr:j+n-2<rest.length:=by omega
  have e1:((n:Int)-2)=((n-2:Nat):Int):=by omega
  have e2:((n:Int)-1)=((n-1:Nat):Int):=by omega
  have e3:((j:Int)+(n:Int)-2)=((j+n-2:Nat):Int):=by omega
  have e32:(2:Int)^32=4294967296:=by decide
  have hkv2:0<=(k:Int)*v2/\(k:Int)*v2<=4294967295*4294967295:=⟨ic (by omega) dv2.1,Int.le_trans (c7 (show(k:Int)<=4294967295 by omega) dv2.1) (dc (by omega) (by omega))⟩;have hpv:(0:Int)<=(P:Int)/(V:Int):=l6 (by omega) (by omega);have hqv:((P/V:Nat):Int)*(V:Int)<=P:=by have:=Nat.div_mul_le_self P V;rw[<-ew];omega
  by_cases hc:l<4294967296/\l*4294967296+r3<(k:Int)*v2
  ·
   have hk1:1<=k:=by
    rcases gk k with h|h
    ·subst h;have:=hc.2;omega
    ·exact h
   have hless:((P/V:Nat):Int)<k:=by refine bJ4 hvd hPd hw hl hvl (by omega) hqv (by omega) ?_ (by omega);rw[<-hle];exact hc.2
   have hkv1:((k-1:Nat):Int)*v1=k*v1-v1:=by rw[show((k-1:Nat):Int)=(k:Int)-1 by omega];grind
   rw[aH (decide_eq_true hc.1),aS (by omega) (by omega),e1,cD gv2,aS (by omega) (by omega),aS (by omega) (by omega),e3,ξ,aC (by omega),aC (by omega),aCm gr3,aJ,aJ,aB];dsimp only;rw[kE (n:=v2) (by omega) (by omega),kE (n:=(k:Int)*v2) (by omega) (by omega),e32,kE (n:=l*4294967296) (by omega) (by omega),kE (n:=r3) (by omega) (by omega),aRt (by omega) dr3,aH (decide_eq_true hc.2),aS (by omega) (by omega),e2,cD gv1,aJ,aJ,kE (n:=v1) (by omega) (by omega),kE (n:=l+v1) (by omega) (by omega),kE (by omega) (by omega)];rw[show((k:Int)-1)=((k-1:Nat):Int) by omega];exact by2 hr hn hj hb hN hV hVn hVl hP hP0 hhi hqo hq0 hvd hPd hw hl hvl gv1 gv2 gr3 hv1 htop hq m (k-1) (l+v1) (by omega) (by omega) (by omega) (by omega) (by omega)
  ·
   have hcond:(if? (decide (l<4294967296)) (ck .i64 (((n:Int)-2)) (aU (dg V) (((n:Int)-2)) fun x35=>ck .i64 (((j:Int)+(n:Int))) (ck .i64 ((((j:Int)+(n:Int))-2)) (gd? ((0<=(((j:Int)+(n:Int))-2))) (gd? (((((j:Int)+(n:Int))-2)<((rest.length:Nat):Int))) (gn? (rest) ((((j:Int)+(n:Int))-2).toNat) fun x36=>gl? (rest.length) (rest) (gl? (q.length) (q) (some (bt,dg V,(n:Int),(j:Int),(k:Int),l,decide ((δ .u64 ((k:Int)*(δ .u64 x35)))>(bits .or .u64 (δ .u64 (l*(2^32))) (δ .u64 x36))),rest,q))))))))) (gl? (rest.length) (rest) (gl? (q.length) (q) (some (bt,dg V,(n:Int),(j:Int),(k:Int),l,false,rest,q)))))=some (bt,dg V,(n:Int),(j:Int),(k:Int),l,false,rest,q):=by
    by_cases hl2:l<4294967296
    ·have hc2:¬l*4294967296+r3<(k:Int)*v2:=fun h=>hc ⟨hl2,h⟩;rw[aH (decide_eq_true hl2),aS (by omega) (by omega),e1,cD gv2,aS (by omega) (by omega),aS (by omega) (by omega),e3,ξ,aC (by omega),aC (by omega),aCm gr3,aJ,aJ];rw[kE (n:=v2) (by omega) (by omega),kE (n:=(k:Int)*v2) (by omega) (by omega),e32,kE (n:=l*4294967296) (by omega) (by omega),kE (n:=r3) (by omega) (by omega),aRt (by omega) dr3,decide_eq_false hc2]
    ·rw[aI (decide_eq_false hl2),aJ,aJ]
   rw[hcond,aB];dsimp only;rw[aI rfl];by_cases hk0:k=0
   ·subst hk0;have hg0:P/V=0:=by omega
    have hm0:P%V=P:=by have:=l7 P V;rw[hg0]at this;omega
    rw[aH (by decide),aJ,aJ];refine⟨rest,q,rfl,⟨hr,rfl,?_,?_,hqo,rfl,?_,fun _ _=>rfl⟩⟩
    ·rw[hg0];show _=_-W j*((0*V:Nat):Int);rw[Nat.zero_mul];show _=_-W j*0;omega
    ·have:=eJ (rest.drop j) (n+1) (by rw[aw];omega);rw[dv,hP0,hP]at this;rw[this,hm0];omega
    ·rw[hg0];show _=_+W j*0;omega
   ·have hkpos:v1<=(k:Int)*v1:=by have:=c7 (show(1:Int)<=k by omega) dv1.1;omega
    have e5:((j:Int)+(n:Int)+1)=((j+(n+1):Nat):Int):=by omega
    rw[aI (by simp;omega),aS (by omega) (by omega),aS (by omega) (by omega),e5,ξ,ξ,aC (by omega),aC (by omega),aC (by omega),aC (by omega),aNy (by omega)];rw[aHl (cP V) (show LOk [(k:Int)]from⟨by omega,trivial⟩) (by rw[hVl];show n+1<=_;omega) (by omega),aB,aJ,aJ,gI,aKj,<-ew,ξ,j5 V k,show j+(n+1)-j=n+1 by omega];exact bLm hr hj (by omega) hN hV hVn hP hP0 hhi hqo hq0 (hq (by omega)) hk hge
theorem bGq(h:a<=b):W a<=W b:=by obtain⟨c,rfl⟩:=kf h;rw[Wa];have h1:=Wp a;have h2:=Wp c;have:=dc (show(1:Int)<=W c by omega) (show 0<=W a by omega);omega
theorem by1{N V L n R Q bt X:Nat}(hbt:bt<=31)(hV:0<V)(hn:2<=n)(hVn:(V:Int)<W n)(hVl:(dg V).length=n)(hvh:2147483648*W (n-1)<=V)(hN:8589934592<N)(hX:(X:Int)<W L*2147483648)(hR:R<=80000000)(hQ:L+1<=Q+n)(hQb:Q<=80000000):∀(m k:Nat) (rest q:List Int),k<m->LOk rest->rest.length=R->LOk q->q.length=Q->k+n<=R->lv (rest.drop k)<V->(∀i,i<k->∀d,q[i]?=some d->d=0)->lv q*V+lv rest=X->
  pC N m (bt:Int) (dg V) (n:Int) ((k:Int)-1) rest q=some (dg (X/V),dg (X%V/2^bt))
 |0,_,_,_,h,_,_,_,_,_,_,_,_=>absurd h (cj _)
 |m+1,k,rest,q,hm,hr,hrl,hqo,hql,hkn,hlow,hqz,hinv=>by
  show pK N (pC N m) _ _ _ _ _ _=_;unfold pK;have nr:=mU hr;have nq:=mU hqo;cases k with
  |zero=>
   rw[cc]at hlow;have eX:(X:Int)=V*lv q+lv rest:=by rw[<-hinv,nz]
   have e1:(X:Int)/V=lv q:=by rw[eX,Int.add_comm,Int.add_mul_ediv_left _ _ (by omega),mr nr hlow,mu]
   have e2:(X:Int)%V=lv rest:=by rw[eX,Int.add_comm,Int.add_mul_emod_self_left,Int.emod_eq_of_lt nr hlow]
   have e3:(lv q).toNat=X/V:=by rw[<-e1,<-Int.natCast_ediv,ξ]
   have e4:(lv rest).toNat=X%V:=by rw[<-e2,<-Int.natCast_emod,ξ]
   have hml:=jt X hV;have hsl:(dg (X%V)).length<=n:=sN (by omega);rw[aI (by decide),aJ,rV hqo (by omega) (by omega),aB,aJ,rV hr (by omega) (by omega),aB,aS (by omega) (by omega),e3,e4];rcases gk bt with h|h
   ·subst h;rw[bJw (by omega) (by omega),aB,oa,Nat.div_one]
   ·rw[bNw hbt h (by omega) (by omega),aB]
  |succ k=>
   have g1:rest[k+n]?=some rest[k+n]:=eL (by omega);have g2:rest[k+n-1]?=some (rest[k+n-1]'(by omega)):=eL (by omega);have g3:rest[k+n-2]?=some (rest[k+n-2]'(by omega)):=eL (by omega);have g4:rest[k]?=some (rest[k]'(by omega)):=eL (by omega);have gv1:(dg V)[n-1]?=some ((dg V)[n-1]'(by omega)):=eL (by omega);have gv2:(dg V)[n-2]?=some ((dg V)[n-2]'(by omega)):=eL (by omega);generalize rest[k+n]=r1 at g1;generalize rest[k+n-1]'(by omega)=r2 at g2;generalize rest[k+n-2]'(by omega)=r3 at g3;generalize rest[k]'(by omega)=r0 at g4;generalize(dg V)[n-1]'(by omega)=v1 at gv1;generalize(dg V)[n-2]'(by omega)=v2 at gv2;have d1:=cO hr g1;have d2:=cO hr g2;have d3:=cO hr g3;have d0:=cO hr g4;have dv1:=cO (cP V) gv1;have dv2:=cO (cP V) gv2;have s1:=eJ (rest.drop (k+1)) n (by rw[aw];omega);rw[dv]at s1;have hz0:=mU (gZ (k+1+n) hr);have hz1:=mU (eC n (gZ (k+1) hr));have hz:lv (rest.drop (k+1+n))=0:=by apply Int.le_antisymm _ hz0;apply Int.not_lt.1;intro h;have:=aWn (k:=n) (show 1<=lv (rest.drop (k+1+n)) by omega);omega
   have hP0:lv (rest.drop (k+(n+1)))=0:=by rw[show k+(n+1)=k+1+n by omega];exact hz
   have s2:=eJ (rest.drop k) (n+1) (by rw[aw];omega);rw[dv,hP0,ik,il]at s2;have s3:=eY g4;have nP:=mU (gZ k hr);obtain⟨P,hPe⟩:=iy nP;have hP:lv ((rest.drop k).take (n+1))=P:=by rw[<-s2,hPe]
   have hhi:P<4294967296*V:=by
    have:(P:Int)<4294967296*V:=by omega
    omega
   have s4:=eJ (rest.drop k) (n-2) (by rw[aw];omega);rw[dv,show k+(n-2)=k+n-2 by omega,eY g3,show k+n-2+1=k+n-1 by omega,eY g2,show k+n-1+1=k+n by omega,eY g1,show k+n+1=k+1+n by omega,hz,hPe]at s4;have l4:=rC (eC (n-2) (gZ k hr));have l4':=mU (eC (n-2) (gZ k hr));rw[bn,aw,gn (by omega)]at l4;generalize lv ((rest.drop k).take (n-2))=low at s4 l4 l4';have s5:=eJ (dg V) (n-2) (by omega);rw[eY gv2,show n-2+1=n-1 by omega,eY gv1,gH (by omega),gI]at s5;have l5:=rC (eC (n-2) (cP V));have l5':=mU (eC (n-2) (cP V));rw[bn,gn (by omega)]at l5;generalize lv ((dg V).take (n-2))=vl at s5 l5 l5';have hw1:W (n-1)=4294967296*W (n-2):=by rw[<-Ws,show n-2+1=n-1 by omega]
   have hw:=Wp (n-2);have hvh':=hvh;rw[hw1]at hvh';have hvd:(V:Int)=v1*(4294967296*W (n-2))+v2*W (n-2)+vl:=by grind
   have hPd:(P:Int)=(r1*4294967296+r2)*(4294967296*W (n-2))+r3*W (n-2)+low:=by grind
   have hv1:2147483648<=v1:=by apply Int.not_lt.1;intro h;have a1:v1*(4294967296*W (n-2))<=2147483647*(4294967296*W (n-2)):=c7 (by omega) (by omega);have a2:v2*W (n-2)<=4294967295*W (n-2):=c7 (by omega) (by omega);omega
   generalize htp:r1*4294967296+r2=top at hPd;have htop:0<=top/\top<18446744073709551616:=by omega
   have hq:2147483648<=top->k<q.length:=by
    intro h;apply ke;intro hQk;have b1:2147483648*(4294967296*W (n-2))<=top*(4294967296*W (n-2)):=c7 h (by omega);have b2:0<=r3*W (n-2):=ic d3.1 (by omega);have b3:2147483648*W (n-1)<=P:=by rw[hw1];omega
    have s6:=eJ rest k (by omega);rw[hPe]at s6;have b4:=mU (eC k hr);have b5:W k*(2147483648*W (n-1))<=W k*P:=dc b3 (jy (Wp k));have b6:0<=lv q*(V:Int):=ic nq (by omega);have b7:W k*(2147483648*W (n-1))=2147483648*W (k+(n-1)):=by rw[Wa];grind
    have b8:=bGq (show L<=k+(n-1) by omega);rw[b7]at b5;omega
   have hgd:top/v1<18446744073709551616:=Int.lt_of_le_of_lt (Int.ediv_le_self v1 htop.1) htop.2;have hg0:0<=top/v1:=l6 htop.1 dv1.1;have hgm:top/v1*v1<=top:=Int.ediv_mul_le top (by omega);have hpv:(0:Int)<=(P:Int)/(V:Int):=l6 (by omega) (by omega);have hqv:((P/V:Nat):Int)*(V:Int)<=P:=by have:=Nat.div_mul_le_self P V;rw[<-ew];omega
   have hkg:=bHk hvd hPd hw l4 l5' d3.2 dv2.1 (show 0<v1 by omega) (show(0:Int)<=((P/V:Nat):Int) by omega) hqv;have hg:P/V<4294967296:=nf (by rw[j5];exact hhi);obtain⟨g,hge⟩:=iy (show 0<=Min.min (top/v1) 4294967295 by omega);have hgv:(g:Int)*v1<=top:=by
    have:(g:Int)<=top/v1:=by omega
    have:=c7 this dv1.1;omega
   have hgv0:0<=(g:Int)*v1:=ic (by omega) dv1.1;obtain⟨rest',q',he,hD⟩:=by2 (q:=q) (bt:=(bt:Int)) hr hn (show k+(n+1)<=rest.length by omega) (by omega) hN hV hVn hVl hP hP0 hhi hqo (fun d h=>hqz k (Nat.lt_succ_self k) d h) hvd hPd hw l4 l5' gv1 gv2 g3 hv1 htop hq N g (top-g*v1) rfl (by omega) (by omega) (by omega) (by omega);have e0:(((k+1:Nat):Int)-1)=(k:Int):=by omega
   have e4:(k:Int)+(n:Int)=((k+n:Nat):Int):=by omega
   have e5:((k+n:Nat):Int)-1=((k+n-1:Nat):Int):=by omega
   have e6:(n:Int)-1=((n-1:Nat):Int):=by omega
   have e32:(2:Int)^32=4294967296:=by decide
   rw[e0,aH (decide_eq_true (by omega)),e4,aS (by omega) (by omega),aC (by omega),aC (by omega),ξ,aCm g1,aS (by omega) (by omega),e5,aS (by omega) (by omega),aC (by omega),aC (by omega),ξ,aCm g2,e6,aS (by omega) (by omega),cD gv1,kE (n:=v1) (by omega) (by omega),aC (by omega),aS (by omega) (by omega),cD gv1,aJ,aJ];rw[kE (n:=v1) (by omega) (by omega),kE (n:=r1) (by omega) (by omega),kE (n:=r2) (by omega) (by omega),e32,kE (n:=r1*4294967296) (by omega) (by omega),aRt d1 d2,htp,Int.tdiv_eq_ediv_of_nonneg htop.1,kE hg0 hgd,hge,kE hgv0 (by omega),kE (n:=top-g*v1) (by omega) (by omega),he,aB];dsimp only;rw[aS (by omega) (by omega),aJ,aJ];refine by1 hbt hV hn hVn hVl hvh hN hX hR hQ hQb m k rest' q' (by omega) hD.ok (by rw[hD.len,hrl]) hD.qok (by rw[hD.qlen,hql]) (by omega) ?_ (fun i hi d h=>hqz i (by omega) d (by rw[<-hD.qz i hi];exact h)) ?_
   ·rw[hD.low];have:=jt P hV;omega
   ·rw[hD.qval,hD.val,ew]
    grind
theorem bSy{t:Nat}(h:t<=31):2^t<=2147483648/\0<2^t:=⟨dw (n:=2) (by decide) h,Nat.pow_pos (by decide)⟩
theorem by0{N a b:Nat}(ha:(dg a).length<=70000000)(hab:b<=a)(hn:2<=(dg b).length)(hN:8589934592<N){y:Nat}(hy:(dg b)[(dg b).length-1]?=some (y:Int))(hy0:0<y):∀(m t:Nat),t<=31->y*2^t<4294967296->31-t<m->
  pO N m (dg a) (dg b) (t:Int)=some (dg (a/b),dg (a%b))
 |0,_,_,_,h=>absurd h (cj _)
 |m+1,t,ht,hyt,hm=>by
  show pL N (pO N m) _ _ _=_;unfold pL;obtain⟨hp,hp0⟩:=bSy ht;have hab':(b:Int)<=a:=by omega
  generalize hnn:(dg b).length=n at*;have hb0:b≠0:=by intro h;subst h;rw[dg0]at hnn;have:(0:Nat)=n:=hnn;omega
  have dy:=cO (cP b) hy;have s:=eJ (dg b) (n-1) (by omega);rw[eY hy,gH (by omega),gI,ik,il]at s;have l1:=rC (eC (n-1) (cP b));have l2:=mU (eC (n-1) (cP b));rw[bn,gn (by omega)]at l1;have w:=Wp (n-1);have hWn:W n=4294967296*W (n-1):=by rw[<-Ws,show n-1+1=n by omega]
  have hbl:W (n-1)<=b:=by have:=aWn (k:=n-1) (show 1<=(y:Int) by omega);omega
  have hla:n<=(dg a).length:=by have:n-1<(dg a).length:=aWv (by omega);omega
  have hlt:(a:Int)<W (dg a).length:=by have:=rC (cP a);rwa[gI]at this
  have e1:((n:Int)-1)=((n-1:Nat):Int):=by omega
  have ep:(y:Int)*(2:Int)^t=((y*2^t:Nat):Int):=by rw[ew,nh];rfl
  have e0:(((gm .u32):Nat):Int)=32:=rfl;rw[aS (by omega) (by omega),e1,cD hy,aC (by omega),aC (by omega),ξ,ep,aNy (by omega)];by_cases hc:y*2^t<2147483648
  ·have ht30:t<=30:=by
    apply Nat.le_of_lt_succ;apply ke;intro h;have:t=31:=by omega
    subst this;have:=cq (2^31) hy0;omega
   rw[aH (decide_eq_true (by omega)),aS (by omega) (by omega)];have:=by0 (t:=t+1) ha hab (by rw[hnn];exact hn) hN (by rw[hnn];exact hy) hy0 m (by omega) (by rw[lh,<-Nat.mul_assoc];omega) (by omega);exact this
  ·
   have hV0:0<b*2^t:=Nat.mul_pos (by omega) hp0;have hVc:((b*2^t:Nat):Int)=(b:Int)*((2^t:Nat):Int):=ew _ _;have hXc:((a*2^t:Nat):Int)=(a:Int)*((2^t:Nat):Int):=ew _ _;have hvh:2147483648*W (n-1)<=((b*2^t:Nat):Int):=by
    rw[hVc,s,Int.add_mul];have a1:0<=lv ((dg b).take (n-1))*((2^t:Nat):Int):=ic l2 (by omega);have a2:W (n-1)*(y:Int)*((2^t:Nat):Int)=((y*2^t:Nat):Int)*W (n-1):=by rw[ew];grind
    have a3:2147483648*W (n-1)<=((y*2^t:Nat):Int)*W (n-1):=c7 (by omega) (by omega);omega
   have hy1:(y+1)*2^t<=4294967296:=by
    have h1:2^(32-t)*2^t=4294967296:=by rw[<-Nat.pow_add,show 32-t+t=32 by omega]
    have h2:y<2^(32-t):=Nat.lt_of_mul_lt_mul_right (a:=2^t) (by rw[h1];exact hyt);have h3:=cq (2^t) h2;rw[h1]at h3;exact h3
   have hVn:((b*2^t:Nat):Int)<W n:=by
    have b1:(b:Int)<W (n-1)*((y+1:Nat):Int):=by rw[ni,Int.mul_add];show _<_+W (n-1)*1;omega
    have b2:(b:Int)*((2^t:Nat):Int)<W (n-1)*((y+1:Nat):Int)*((2^t:Nat):Int):=Int.mul_lt_mul_of_pos_right b1 (by omega);have b3:W (n-1)*((y+1:Nat):Int)*((2^t:Nat):Int)=(((y+1)*2^t:Nat):Int)*W (n-1):=by rw[ew];grind
    have b4:(((y+1)*2^t:Nat):Int)*W (n-1)<=4294967296*W (n-1):=c7 (by omega) (by omega);omega
   have hVl:(dg (b*2^t)).length=n:=by have c1:(dg (b*2^t)).length<=n:=sN hVn;have c2:n-1<(dg (b*2^t)).length:=aWv (by omega);omega
   have hX:((a*2^t:Nat):Int)<W (dg a).length*2147483648:=by rw[hXc];have c1:(a:Int)*((2^t:Nat):Int)<W (dg a).length*((2^t:Nat):Int):=Int.mul_lt_mul_of_pos_right hlt (by omega);have c2:W (dg a).length*((2^t:Nat):Int)<=W (dg a).length*2147483648:=dc (by omega) (jy (Wp _));omega
   have hXl:(dg (a*2^t)).length<=(dg a).length+1:=sN (by
    rw[Ws];have:=Wp (dg a).length;omega)
   have hXn:n<=(dg (a*2^t)).length:=by
    have:n-1<(dg (a*2^t)).length:=aWv (by
     have:b*2^t<=a*2^t:=cq _ hab;omega)
    omega
   generalize hR:(dg (a*2^t)).length=r at*;rw[aI (decide_eq_false (by omega)),aXo ht (by omega) (by omega),aB,aXo ht (by omega) (by omega),aB,aT1 (by omega),aB,aJ,aC (by rw[hR];show(r+2)*4<=_;omega),hVl];have eQ:((((dg a).length:Nat):Int)-(n:Int)+2).toNat=(dg a).length-n+2:=by omega
   have el:(((dg (a*2^t)++[0,0]).length:Nat):Int)=(r:Int)+2:=by rw[ι,hR];rfl
   rw[el,eQ,aS (by omega) (by omega),aS (by omega) (by omega),aC (by omega),aC (by omega),aC (by omega),aC (by omega),aS (by omega) (by omega),aS (by omega) (by omega),aJ,aFq (by rw[di])];have ek:(r:Int)+2-(n:Int)-1=((r+2-n:Nat):Int)-1:=by omega
   rw[ek];have hz:lv ([0,0]:List Int)=0:=rfl;have:=by1 (R:=r+2) (Q:=(dg a).length-n+2) (bt:=t) ht hV0 hn hVn hVl hvh hN hX (by omega) (by omega) (by omega) N (r+2-n) (dg (a*2^t)++[0,0]) (ω ((dg a).length-n+2) 0) (by omega) (pS.2 ⟨cP _,by decide,by decide,trivial⟩) (by rw[ι,hR];rfl) (aJ1 _) (di ..) (by omega) (by
    rw[ee (by omega),vR,hz,ik,il];have d1:=rC (gZ (r+2-n) (cP (a*2^t)));rw[aw,hR]at d1;have d2:=bGq (show r-(r+2-n)<=n-1 by omega);omega) (fun i _ d h=>by
    have:=br h;exact(List.mem_replicate.1 this).2) (by rw[aNc,Int.zero_mul,mu,vR,hz,gI,ik,il])
   rw[this,Nat.mul_div_mul_right _ _ hp0,Nat.mul_mod_mul_right,Nat.mul_div_cancel _ hp0]
theorem bSr(hb:0<b)(ha:(dg a).length<=70000000)(hbl:(dg b).length<=70000000)(hN:8589934592<N):oJ N (dg a) (dg b)=some (dg (a/b),dg (a%b)):=by
 unfold oJ;rw[xF (by omega) (by omega) (by omega),aB,aJn];by_cases h:a<b
 ·rw[aH (aLg h),Nat.div_eq_of_lt h,ji h,dg0]
 ·rw[aI (aIv h)];obtain⟨l,d,hd,hlo,hd0,hd1⟩:=aZ3 (n:=b) (by omega);by_cases h1:(dg b).length=1
  ·have hl:l=[]:=by rw[hd,ι]at h1;exact de.1 (by simpa using h1)
   subst hl;have hbd:(b:Int)=d:=by have:=gI b;rw[hd]at this;rw[<-this];exact aKj d
   have hq:(((((dg b).length:Nat):Int)==1)=true):=by rw[h1];rfl
   have e:(0:Int)=((0:Nat):Int):=rfl;rw[aH hq];have hg:(dg b)[0]?=some (b:Int):=by rw[hd,hbd];rfl
   rw[e,cD hg,aTq (by omega) (by omega) (by omega),aB];have hml:=jt a hb;rw[rV (show LOk [((a%b:Nat):Int)]from⟨by omega,trivial⟩) (by show 1<N;omega) (by show 1<=_;omega),aB,aKj,ξ]
  ·have hn:2<=(dg b).length:=by
    have:(dg b).length≠0:=by rw[hd,ι];simp
    omega
   have hq:(((((dg b).length:Nat):Int)==1)=false):=by apply beq_false_of_ne;omega
   rw[aI hq];obtain⟨y,rfl⟩:=iy (jy hd0);have hy:(dg b)[(dg b).length-1]?=some (y:Int):=by rw[hd,ι];simp
   exact by0 ha (by omega) hn hN hy (by omega) N 0 (by omega) (by rw[oa];omega) (by omega)
theorem aJq(h:a<=b):(dg a).length<=(dg b).length:=sN (by
 have:=rC (cP b);rw[gI]at this;omega)
theorem aUx(hb:b≠0)(ha:(dg a).length<=70000000)(hbl:(dg b).length<=70000000)(hN:8589934592<N):G_nat_Gcd_1 (N+1) (dg a) (dg b)=bd? (G_nat_Gcd_1 N (dg b) (dg (a%b))) fun v=>some v:=by
 show qH N (fun _=>G_nat_Gcd_1 N) (dg a) (dg b)=_;unfold qH;have h:((((dg b).length:Nat):Int)==0)=false:=by apply beq_false_of_ne;have:dg b≠[]:=fun h=>hb (bOc.1 h);have:=List.length_pos_iff.2 this;omega
 rw[aI h,bSr (by omega) ha hbl hN,aB]
theorem aM5:G_nat_Gcd_1 (N+1) (dg a) (dg 0)=some (dg a):=by show qH N (fun _=>G_nat_Gcd_1 N) (dg a) (dg 0)=_;unfold qH;rw[dg0];rfl
theorem aTr:∀(k N a b:Nat),b<2^k->(dg a).length<=70000000->(dg b).length<=70000000->8589934592+2*k+2<N->G_nat_Gcd_1 N (dg a) (dg b)=some (dg (Nat.gcd a b))
 |0,N,a,b,hk,ha,hb,hN=>by
  have:b=0:=by omega
  subst this;obtain⟨M,rfl⟩:∃M,N=M+1:=⟨N-1,by omega⟩;rw[aM5,Nat.gcd_zero_right]
 |k+1,N,a,b,hk,ha,hb,hN=>by
  obtain⟨M,rfl⟩:∃M,N=M+1+1:=⟨N-2,by omega⟩;rcases gk b with h|h
  ·subst h;rw[aM5,Nat.gcd_zero_right]
  ·have hr:=jt a h;rw[aUx (by omega) ha hb (by omega)];have hrl:=cg (aJq (kj hr)) hb;rcases gk (a%b)with h0|h0
   ·rw[h0,aM5,aB];rw[Nat.gcd_comm,Nat.gcd_rec,h0,Nat.gcd_zero_left]
   ·have hr2:=jt b h0;have hdm:=l7 b (a%b);have hd1:1<=b/(a%b):=(Nat.le_div_iff_mul_le h0).2 (by omega);have hh:=Nat.mul_le_mul_left (a%b) hd1;rw[aUx (by omega) hb hrl (by omega),aTr k M (a%b) (b%(a%b)) (by rw[lh]at hk;omega) hrl (cg (aJq (kj hr2)) hrl) (by omega)];rw[aB,aB,Nat.gcd_comm (a%b),<-Nat.gcd_rec,<-Nat.gcd_rec,Nat.gcd_comm]
def st(n:Nat):Str:=if h:n=0 then[]else st (n/256)++[UInt8.ofNat (n%256)]
termination_by n
decreasing_by omega
theorem st0:st 0=[]:=by unfold st;simp
theorem bLa(h:n≠0):st n=st (n/256)++[UInt8.ofNat (n%256)]:=by rw[st];simp[h]
theorem sH:∀(n:Nat),nb (st n)=n:=fun n=>by
 induction n using ie with
 |_ n ih=>
  by_cases h:n=0
  ·subst h;rw[st0];rfl
  ·rw[bLa h,aS0,ih (n/256) (by omega),ju];omega
def Can(s:Str):Prop:=∀b,s.head?=some b->b≠0
theorem bDz{b:UInt8}(h:b≠0):256^s.length<=nb (b::s):=by
 rw[aBj];have:1<=b.toNat:=by have:b.toNat≠0:=fun e=>h (l8.1 e);omega
 have:=cq (256^s.length) this;omega
theorem bDr:∀(n:Nat) (s:Str),Can s->nb s=n->st n=s:=fun n=>by
 induction n using ie with
 |_ n ih=>
  intro s hs hn;rcases List.eq_nil_or_concat s with rfl|⟨l,b,rfl⟩
  ·have:n=0:=hn.symm;subst this;exact st0
  ·rw[List.concat_eq_append]at hs hn|-;rw[aS0]at hn;have hb:=b.toNat_lt;have h0:n≠0:=by
    intro h;cases l with
    |nil=>
     have:b.toNat=0:=by omega
     exact hs b rfl (l8.1 this)
    |cons c l=>
     have:=bDz (s:=l) (hs c rfl);have hp:0<256^l.length:=Nat.pow_pos (by decide);omega
   rw[bLa h0,ih (n/256) (by omega) l (fun c hc=>hs c (by
    cases l with
    |nil=>cases hc
    |cons d l=>exact hc)) (by omega)]
   congr 2;apply l8.1;rw[ju];omega
theorem bPf(n:Nat):Can (st n):=by
 induction n using ie with
 |_ n ih=>
  by_cases h:n=0
  ·subst h;rw[st0];intro b hb;cases hb
  ·rw[bLa h];intro b hb;by_cases h2:n/256=0
   ·rw[h2,st0]at hb;cases hb;intro e;have:=congrArg UInt8.toNat e;rw[ju]at this;have:n%256%256=0:=this;omega
   ·apply ih (n/256) (by omega) b;rw[bLa h2]at hb|-;rw[υ]at hb;cases hst:st (n/256/256)with
    |nil=>rw[hst]at hb;exact hb
    |cons c l=>rw[hst]at hb;exact hb
def cl(s:Str):Str:=s.dropWhile (· ==0)
theorem bM1:∀(s:Str),nb (cl s)=nb s
 |[]=>rfl
 |b::s=>by
  unfold cl;rw[nv];split
  ·rename_i h;have:b=0:=by simpa using h
   subst this;rw[aBj];have:=bM1 s;unfold cl at this;rw[this];show _=0*_+_;omega
  ·rfl
theorem bGg:∀(s:Str),Can (cl s)
 |[]=>by intro b h;cases h
 |c::s=>by
  unfold cl;rw[nv];split
  ·exact bGg s
  ·rename_i h;intro b hb;cases hb;simpa using h
theorem bTm(s:Str):cl s=st (nb s):=(bDr _ _ (bGg s) (bM1 s)).symm
theorem aMe:∀(m:Nat) (s:Str),s.length<m->s.length<=1000000000000->cE m s 0=some (cl s)
 |0,_,h,_=>absurd h (cj _)
 |m+1,s,h,hb=>by
  show fL (cE m) s 0=_;unfold fL;cases s with
  |nil=>rfl
  |cons b s=>
   have hl:(b::s).length=s.length+1:=rfl;have e:(0:Int)=((0:Nat):Int):=rfl;rw[aH (decide_eq_true (by rw[hl];omega))];have hg:(b::s)[0]?=some b:=rfl;rw[qO (Int.le_refl 0) (show(b::s)[(0:Int).toNat]?=some b from rfl),aB];dsimp only;unfold cl;rw[nv];by_cases h0:b=0
   ·subst h0;rw[aH (by decide),aC (by rw[hl];omega),aC (τ _)];rw[show cm ((0::s).length-1) (df 1 ((0:UInt8)::s))=s from m7 ..];have:=aMe m s (by rw[hl]at h;omega) (by rw[hl]at hb;omega);rw[this];rfl
   ·have h1:(((b.toNat:Nat):Int)==0)=false:=by apply beq_false_of_ne;intro e;exact h0 (l8.1 (show b.toNat=0 by omega))
    rw[aI h1,if_neg (by simpa using h0)]
theorem bIq(hN:s.length<N)(hb:s.length<=1000000000000):uI N s=some (cl s):=by
 unfold uI lP gR;cases s with
 |nil=>rfl
 |cons b s=>
  have h:((b::s)==([]:Str))=false:=rfl;rw[aI h,aB];dsimp only;have h2:(([0]:Str)==([]:Str))=false:=rfl;rw[aI h2];have h3:(if? ((((([0]:Str).length:Nat):Int)==1)) (aU ([0]:Str) (0) fun x4=>some ((b::s),([0]:Str),decide (((x4.toNat:Nat):Int)<128))) (some ((b::s),([0]:Str),false)))=some ((b::s),([0]:Str),true):=rfl;rw[h3,aB];dsimp only;rw[aH rfl];have h4:(aU ([0]:Str) 0 fun x6=>bd? (cE N (b::s) ((x6.toNat:Nat):Int)) fun v7=>some v7)=bd? (cE N (b::s) 0) fun v7=>some v7:=rfl;rw[h4,aMe N _ hN hb];rfl
theorem aVa:∀(m i:Nat) (xs:List Int),xs.length-i<m->i<=xs.length->xs.length<=1000000000000->
  ∃ys,dV m (i:Int) ((xs.length:Int)-1-i) xs=some ys/\ys.length=xs.length/\(∀k,i<=k->k<xs.length-i->ys[k]?=xs[xs.length-1-k]?)/\∀k,(k<i\/xs.length-i<=k)->ys[k]?=xs[k]?
 |0,_,_,h,_,_=>absurd h (cj _)
 |m+1,i,xs,hm,hi,hb=>by
  show∃ys,dT (dV m) _ _ _=some ys/\_;unfold dT;by_cases h:i<xs.length-1-i
  ·have ej:((xs.length:Int)-1-i)=((xs.length-1-i:Nat):Int):=by omega
   have hj:xs.length-1-i<xs.length:=by omega
   rw[ej,aH (aLg h),aC (by omega),aC (by omega),ξ,aCm (eL hj),aC (by omega),aC (by omega),ξ,aCm (eL (show i<xs.length by omega)),aC (by omega),aC (by omega),aCm (eL (show i<xs.length by omega)),aC (by omega),aC (by omega),aCm (eL (show xs.length-1-i<(xs.set i xs[xs.length-1-i]).length by rw[ef];omega)),aS (by omega) (by omega),aS (by omega) (by omega),aFq (by rw[ef,ef])];have hl:((xs.set i xs[xs.length-1-i]).set (xs.length-1-i) xs[i]).length=xs.length:=by rw[ef,ef]
   obtain⟨ys,h1,h2,h3,h4⟩:=aVa m (i+1) ((xs.set i xs[xs.length-1-i]).set (xs.length-1-i) xs[i]) (by rw[hl];omega) (by rw[hl];omega) (by rw[hl];omega);rw[hl]at h1 h2 h3 h4;rw[show(((i+1:Nat):Int))=(i:Int)+1 by omega,show(xs.length:Int)-1-((i:Int)+1)=((xs.length-1-i:Nat):Int)-1 by omega]at h1;refine⟨ys,h1,h2,fun k hk1 hk2=>?_,fun k hk=>?_⟩
   ·by_cases e1:k=i
    ·subst e1;rw[h4 k (.inl (by omega)),iz (by omega),jr (by omega),eL hj]
    ·by_cases e2:k=xs.length-1-i
     ·rw[h4 k (.inr (by omega)),e2,jr (by rw[ef];omega),show xs.length-1-(xs.length-1-i)=i by omega,eL]
     ·rw[h3 k (by omega) (by omega),iz (by omega),iz (by omega)]
   ·rw[h4 k (by omega),iz (by omega),iz (by omega)]
  ·rw[aI (decide_eq_false (by omega))];refine⟨xs,rfl,rfl,fun k h1 h2=>?_,fun _ _=>rfl⟩;rw[show xs.length-1-k=k by omega]
theorem bPm(hN:xs.length<N)(hb:xs.length<=1000000000000):cW N xs=some xs.reverse:=by
 unfold cW;obtain⟨ys,h1,h2,h3,_⟩:=aVa N 0 xs (by omega) (by omega) hb;rw[show((xs.length:Int)-1-((0:Nat):Int))=(xs.length:Int)-1 by omega]at h1;rw[aS (by omega) (by omega),aJ];refine h1.trans (congrArg some (List.ext_getElem? fun k=>?_));by_cases hk:k<xs.length
 ·rw[h3 k (by omega) (by omega),List.getElem?_reverse hk]
 ·rw[bw (by omega),bw (by rw[lu];omega)]
theorem aWr(a b:List Int):aO (a++b)=aO a++aO b:=List.map_append
theorem aJl(x:Int):(UInt8.ofNat (δ .u8 x).toNat).toNat=(x%256).toNat:=by rw[w8,ju];omega
theorem bHr(k:Nat):W k=((256^(4*k):Nat):Int):=by unfold W;rw[Nat.pow_mul,nh];rfl
theorem aP4{N:Nat}{xs:List Int}(hx:LOk xs)(hb:xs.length<=100000000)(hN:8589934592<N):∀(m k:Nat) (out:List Int),xs.length-k<m->k<=xs.length->out.length=4*k->((nb (aO out.reverse):Nat):Int)=lv (xs.take k)->
  mL N m xs (xs.length:Int) (k:Int) out=some (st (lv xs).toNat)
 |0,_,_,h,_,_,_=>absurd h (cj _)
 |m+1,k,out,hm,hk,hl,hinv=>by
  show mA N (mL N m) xs _ _ out=_;unfold mA;by_cases hlt:k<xs.length
  ·have dx:=cO hx (eL hlt);rw[aH (aLg hlt),cD (eL hlt),aJ,aC (by show(out.length+4)*1<=_;omega),aS (by omega) (by omega),aJ];rw[show((k:Int)+1)=((k+1:Nat):Int) by omega];refine aP4 hx hb hN m (k+1) _ (by omega) (by omega) (by rw[ι,hl];show 4*k+4=_;omega) ?_;rw[aE9 (eL hlt),List.reverse_append,aWr,aQb,<-hinv];have hlen:(aO out.reverse).length=4*k:=by unfold aO;rw[κ,lu,hl]
   rw[hlen,bHr];generalize xs[k]=d at*;have e8:(2:Int)^8=256:=by decide
   have e16:(2:Int)^16=65536:=by decide
   have e24:(2:Int)^24=16777216:=by decide
   have e:((nb (aO ([δ .u8 d,δ .u8 (d/2^8),δ .u8 (d/2^16),δ .u8 (d/2^24)].reverse)):Nat):Int)=d:=by show((nb [UInt8.ofNat (δ .u8 (d/2^24)).toNat,UInt8.ofNat (δ .u8 (d/2^16)).toNat,UInt8.ofNat (δ .u8 (d/2^8)).toNat,UInt8.ofNat (δ .u8 d).toNat]:Nat):Int)=d;show(((256*(256*(256*(256*0+(UInt8.ofNat (δ .u8 (d/2^24)).toNat).toNat)+(UInt8.ofNat (δ .u8 (d/2^16)).toNat).toNat)+(UInt8.ofNat (δ .u8 (d/2^8)).toNat).toNat)+(UInt8.ofNat (δ .u8 d).toNat).toNat:Nat)):Int)=d;rw[aJl,aJl,aJl,aJl,e8,e16,e24];omega
   rw[ni,ew,e];generalize((256^(4*k):Nat):Int)=w
   grind
  ·have hk':k=xs.length:=by omega
   subst hk';rw[m7]at hinv;have hlb:(aO out.reverse).length=out.length:=by unfold aO;rw[κ,lu]
   rw[aI (aIv hlt),aJ,bPm (by omega) (by omega),aB,aFq (by rw[lu]),bIq (by omega) (by omega),aB,bTm];congr 2;omega
theorem aJk(hb:(dg n).length<=100000000)(hN:8589934592<N):dF N (dg n)=some (st n):=by unfold dF;have:=aP4 (cP n) hb hN N 0 [] (by omega) (by omega) rfl rfl;rw[gI,ξ]at this;exact this
theorem bFi(h:n<256^k):(st n).length<=k:=by
 cases hs:st n with
 |nil=>exact fo _
 |cons b l=>
  have hc:=bPf n b (by rw[hs];rfl);have:=bDz (s:=l) hc;rw[<-hs,sH]at this;apply la;intro h2;have h3:k<=l.length:=by have:(b::l).length=l.length+1:=rfl;omega
  have:=dw (n:=256) (by decide) h3;omega
theorem dgl:(dg (nb s)).length<=s.length:=sN (by
 rw[bHr];have h1:=wH s;have h2:256^s.length<=256^(4*s.length):=dw (by decide) (by omega);omega)
theorem dgc(h:n<256^k):(dg n).length<=k:=sN (by
 rw[bHr];have h2:256^k<=256^(4*k):=dw (by decide) (by omega);omega)
theorem aXt(ha:a<256^k)(hb:b<256^j):a*b<256^(k+j):=by rw[Nat.pow_add];have h1:=cq b (kj ha);have h2:=Nat.mul_lt_mul_of_pos_left hb (show 0<256^k by omega);omega
theorem bP4(ha:a<256^k)(hb:b<256^k):a+b<256^(k+1):=by rw[lh];omega
theorem bPw(hs:s.length<=50000000)(ht:t.length<=50000000)(hN:17179869184<N):aA7 N s t=some (st (Nat.gcd (nb s) (nb t))):=by
 unfold aA7;have h1:=dgl (s:=s);have h2:=dgl (s:=t);have h3:=wH t;rw[show 256^t.length=2^(8*t.length) by rw[Nat.pow_mul]]at h3;rw[pT (by omega) (by omega),aB,pT (by omega) (by omega),aB,aTr _ N _ _ h3 (by omega) (by omega) (by omega),aB];have h4:(dg (Nat.gcd (nb s) (nb t))).length<=100000000:=by
  rcases gk (nb s)with h|h
  ·rw[h,Nat.gcd_zero_left];omega
  ·exact cg (aJq (Nat.gcd_le_left _ h)) (by omega)
 rw[aJk h4 (by omega),aB]
theorem aYo(hs:s.length<=40000000)(ht:t.length<=40000000)(hN:17179869184<N):sF N s t=some (st (nb s*nb t)):=by unfold sF;have h1:=dgl (s:=s);have h2:=dgl (s:=t);have h3:=dgc (aXt (wH s) (wH t));rw[pT (by omega) (by omega),aB,pT (by omega) (by omega),aB,bEa (by omega) (by omega),aB,aJk (by omega) (by omega),aB]
theorem bP2(hs:s.length<=50000000)(ht:t.length<=50000000)(hN:17179869184<N):aBg N s t=some (st (nb s+nb t)):=by unfold aBg;have h1:=dgl (s:=s);have h2:=dgl (s:=t);have h3:(dg (nb s+nb t)).length<=max s.length t.length+1:=dgc (bP4 (dm (wH s) (dw (by decide) (Nat.le_max_left ..))) (dm (wH t) (dw (by decide) (Nat.le_max_right ..))));rw[pT (by omega) (by omega),aB,pT (by omega) (by omega),aB,bLe (by omega) (by omega) (by omega),aB,aJk (by omega) (by omega),aB]
theorem bN8(hs:s.length<=100000000)(ht:t.length<=100000000)(hN:17179869184<N):aBe N s t=some (kK (nb s) (nb t)):=by unfold aBe;have h1:=dgl (s:=s);have h2:=dgl (s:=t);rw[pT (by omega) (by omega),aB,pT (by omega) (by omega),aB,xF (by omega) (by omega) (by omega),aB]
theorem bGe(h:nb t<=nb s)(hs:s.length<=100000000)(ht:t.length<=100000000)(hN:17179869184<N):aAw N s t=some (st (nb s-nb t),0):=by unfold aAw;have h1:=dgl (s:=s);have h2:=dgl (s:=t);have h3:=aJq (Nat.sub_le (nb s) (nb t));rw[pT (by omega) (by omega),aB,pT (by omega) (by omega),aB,xF (by omega) (by omega) (by omega),aB,aJn,aI (aIv (by omega)),aK2 h (by omega) (by omega),aB,aJk (by omega) (by omega),aB]
def bId:Str->Bool
 |[]=>true
 |b::_=>b !=0
theorem aV7:qK N s=some (bId s):=by
 unfold qK;cases s with
 |nil=>rfl
 |cons b l=>
  rw[aI (show((b::l)==([]:Str))=false from rfl)];show some ((((b.toNat:Nat):Int)!=0))=some (b !=0);congr 1;by_cases h:b=0
  ·subst h;rfl
  ·have h1:((b.toNat:Nat):Int)≠0:=fun e=>h (l8.1 (show b.toNat=0 by omega));rw[bne_iff_ne .. |>.2 h,bne_iff_ne .. |>.2 h1]
abbrev Rt:=Bool×(Str×Str)
variable{p:Rt}
def rv(p:Rt):Bool:=(p.1==false&&(p.2.1==([]:Str)&&p.2.2==([]:Str)))||(!(p.2.1==([]:Str))&& !(p.2.2==([]:Str))&&bId p.2.1&&bId p.2.2&&decide (Nat.gcd (nb p.2.1) (nb p.2.2)=1))
theorem st1:st 1=[1]:=bDr 1 [1] (fun b h=>by cases h;decide) rfl
theorem bNu:(st n==([1]:Str))=decide (n=1):=by
 by_cases h:n=1
 ·subst h;rw[st1];decide
 ·rw[decide_eq_false h];apply beq_false_of_ne;intro e;have:=sH n;rw[e]at this;exact h this.symm
theorem aFi(h1:p.2.1.length<=50000000)(h2:p.2.2.length<=50000000)(hN:17179869184<N):mX N p=some (rv p):=by
 obtain⟨s,a,b⟩:=p;unfold mX rv;rw[aV7,aV7,bPw h1 h2 hN];show(if? (s==false&&(a==[]&&b==[])) _ _)=some ((s==false&&(a==[]&&b==[]))||_);cases hc:(s==false&&(a==[]&&b==[]))
 ·rw[aI rfl,Bool.false_or];dsimp only;cases ha:(a==([]:Str))
  ·cases hb:(b==([]:Str))
   ·rw[show(!false)=true from rfl,aH rfl,aH rfl,aB];cases hva:bId a
    ·rfl
    ·rw[aH rfl,aB];cases hvb:bId b
     ·rfl
     ·rw[aH rfl,aB,bNu];rfl
   ·rfl
  ·rfl
 ·rfl
def rof(p:Rt):Rt:=if p.2.1==([]:Str)|| !rv p then(false,([],[1]))else p
theorem aOb(h1:p.2.1.length<=50000000)(h2:p.2.2.length<=50000000)(hN:17179869184<N):zG N p=some (rof p):=by
 obtain⟨s,a,b⟩:=p;unfold zG rof;have hv:=aFi (p:=(s,(a,b))) h1 h2 hN;dsimp only at*;rw[hv];cases ha:(a==([]:Str))
 ·cases hr:rv (s,(a,b))
  ·rfl
  ·rfl
 ·rfl
def bPu(p q:Rt):Rt:=
 if p.1=q.1 then(p.1,(st (nb p.2.1*nb q.2.2+nb q.2.1*nb p.2.2),st (nb p.2.2*nb q.2.2)))
 else if nb p.2.1*nb q.2.2<nb q.2.1*nb p.2.2 then(q.1,(st (nb q.2.1*nb p.2.2-nb p.2.1*nb q.2.2),st (nb p.2.2*nb q.2.2)))
 else(p.1,(st (nb p.2.1*nb q.2.2-nb q.2.1*nb p.2.2),st (nb p.2.2*nb q.2.2)))
theorem bQ5{q:Rt}(h1:p.2.1.length<=20000000)(h2:p.2.2.length<=20000000)(h3:q.2.1.length<=20000000)(h4:q.2.2.length<=20000000)(hN:17179869184<N):fR N p q=some (bPu p q):=by
 obtain⟨s,a,b⟩:=p;obtain⟨t,c,d⟩:=q;unfold fR bPu;dsimp only at*;have l1:=bFi (aXt (wH a) (wH d));have l2:=bFi (aXt (wH c) (wH b));rw[aYo (by omega) (by omega) hN,aB,aYo (by omega) (by omega) hN,aB,aYo (by omega) (by omega) hN,aB];by_cases hs:s=t
 ·rw[if_pos hs,aH (by simpa using hs),bP2 (by omega) (by omega) hN,aB,sH,sH]
 ·rw[if_neg hs,aI (by simpa using hs),bN8 (by omega) (by omega) hN,aB,aJn,sH,sH];by_cases hl:nb a*nb d<nb c*nb b
  ·rw[if_pos hl,aH (aLg hl),aB];dsimp only;rw[bGe (by rw[sH,sH];omega) (by omega) (by omega) hN,aB,sH,sH]
  ·rw[if_neg hl,aI (aIv hl),aB];dsimp only;rw[bGe (by rw[sH,sH];omega) (by omega) (by omega) hN,aB,sH,sH]
def sg(s:Bool)(n:Nat):Int:=if s then-(n:Int)else n
def bO9(p q:Rt):Int:=kK (sg (rof p).1 (nb (rof p).2.1*nb (rof q).2.2)) (sg (rof q).1 (nb (rof q).2.1*nb (rof p).2.2))
theorem aXa:(st n==([]:Str))=decide (n=0):=by
 by_cases h:n=0
 ·subst h;rw[st0];rfl
 ·rw[decide_eq_false h];apply beq_false_of_ne;intro e;have:=sH n;rw[e]at this;exact h this.symm
theorem aZt(hk:1<=k)(h1:p.2.1.length<=k)(h2:p.2.2.length<=k):(rof p).2.1.length<=k/\(rof p).2.2.length<=k:=by
 unfold rof;split
 ·exact⟨fo _,hk⟩
 ·exact⟨h1,h2⟩
theorem aYe{q:Rt}(h1:p.2.1.length<=20000000)(h2:p.2.2.length<=20000000)(h3:q.2.1.length<=20000000)(h4:q.2.2.length<=20000000)(hN:17179869184<N):wE N p q=some (bO9 p q):=by
 unfold wE kN bO9;have e1:=aOb (N:=N) (p:=p) (by omega) (by omega) hN;have e2:=aOb (N:=N) (p:=q) (by omega) (by omega) hN;have l1:=aZt (p:=p) (by decide) h1 h2;have l2:=aZt (p:=q) (by decide) h3 h4;obtain⟨s,a,b⟩:=p;obtain⟨t,c,d⟩:=q;dsimp only at*;rw[e1,aB,e2,aB];generalize rof (s,(a,b))=x at*;generalize rof (t,(c,d))=y at*;obtain⟨s,a,b⟩:=x;obtain⟨t,c,d⟩:=y;dsimp only at*;rw[bQ5 l1.1 l1.2 l2.1 l2.2 hN,aB,aB];unfold bPu;dsimp only;have hmn:∀u v:Nat,(0:Int)<=((u*v:Nat):Int):=fun u v=>by omega
 generalize nb a*nb d=m;generalize nb c*nb b=n;unfold kK sg;by_cases hs:s=!t
 ·rw[if_pos hs];dsimp only;rw[aXa];by_cases h0:m+n=0
  ·have:m=0:=by omega
   have:n=0:=by omega
   subst_vars
   cases t<;>rfl
  ·rw[decide_eq_false h0,aI rfl];cases s<;>cases t<;>first|(exact absurd hs (by decide))|skip
   ·rw[aI rfl,if_neg (by simp<;>omega),if_neg (by simp<;>omega)]
   ·rw[aH rfl,if_pos (by simp<;>omega)]
 ·rw[if_neg hs];by_cases hl:m<n
  ·rw[if_pos hl];dsimp only;rw[aXa,decide_eq_false (by omega),aI rfl];cases s<;>cases t<;>first|(exact absurd rfl hs)|skip
   ·rw[show(!false)=true from rfl,aH rfl,if_pos (by simp<;>omega)]
   ·rw[show(!true)=false from rfl,aI rfl,if_neg (by simp<;>omega),if_neg (by simp<;>omega)]
  ·rw[if_neg hl];dsimp only;rw[aXa];by_cases h0:m-n=0
   ·have:m=n:=by omega
    subst this;rw[h0];cases s<;>cases t<;>first|(exact absurd rfl hs)|skip
    ·rw[aH (by decide),if_neg (by simp),if_pos (by simp)]
    ·rw[aH (by decide),if_neg (by simp),if_pos (by simp)]
   ·rw[decide_eq_false h0,aI rfl];cases s<;>cases t<;>first|(exact absurd rfl hs)|skip
    ·rw[aI rfl,if_neg (by simp<;>omega),if_neg (by simp<;>omega)]
    ·rw[aH rfl,if_pos (by simp<;>omega)]
abbrev Vr:=TH
def vlt(x y:Vr):Prop:=x.2.1<y.2.1\/(x.2.1=y.2.1/\x.2.2.1<y.2.2.1)
instance(x y:Vr):Decidable (vlt x y):=inferInstanceAs (Decidable (_\/_))
def aVd(x y:Vr):Int:=if kK x.2.1 y.2.1≠0 then kK x.2.1 y.2.1 else kK x.2.2.1 y.2.2.1
theorem bFx{x y:Vr}:aVd x y<0↔vlt x y:=by
 unfold aVd kK vlt
 repeat' split
 all_goals omega
theorem bH5(N:Nat)(x y:Vr):dX N x y=some (aVd x y):=by
 unfold dX aVd;rw[aA8,aB,aA8,aB];by_cases h:kK x.2.1 y.2.1=0
 ·rw[if_neg (by omega),aI (by rw[h];rfl)]
 ·rw[if_pos h,aH (by rw[bne_iff_ne];exact h)]
set_option synthInstance.maxSize 100000
set_option synthInstance.maxHeartbeats 400000
abbrev SSr(l:List Vr):Prop:=l.Pairwise vlt
end Go.Proofs.Tryz

/- Texts of this claim. -/
import Derived.Test.YtjhhgpencphgoaaDoorLA
import Derived.Test.YtjhhgpencphgoaaDoorYB
import Derived.Lib.Varint
import Derived.Lib.BitFns
import Derived.Laws.Bits64
open BitVec renaming ofInt_natCast->jj,toNat_ofNat->jz
open Bool renaming eq_iff_iff->ft
open Go.IntKind renaming wrap->θ
open Int renaming ofNat_tmod->gx,tdiv->fv,tmod->za0,toNat_natCast->za1
open List renaming append_assoc->a9,append_nil->bj,drop->dx,drop_drop->eg,drop_of_length_le->dg,drop_zero->da,getD_eq_getElem?_getD->bk,getElem?_eq_getElem->ν,getElem_mem->ee,length_append->κ,length_cons->bg,length_drop->υ,length_eq_zero_iff->dn,length_nil->za2,mem_append->dj,mem_singleton->bo,nil_append->za3,take->de,take_of_length_le->bn
open Nat renaming add_sub_cancel->jt,le_refl->π,le_trans->cx,mul_le_mul_right->c8,pow_le_pow_right->fw
set_option linter.all false
namespace Go.Proofs.Tryd
open Go.Eng
theorem aJ{α:Type}{c:Bool}{a b:Option α}(h:c=true):if? c a b=a:=by rw[h];rfl
theorem aK{α:Type}{c:Bool}{a b:Option α}(h:c=false):if? c a b=b:=by rw[h];rfl
abbrev Vr:=(Int×(Int×(Int×(Int×(Int×(Int×(Int×TH)))))))
end Go.Proofs.Tryd
set_option maxRecDepth 8000
set_option synthInstance.maxSize 100000
set_option synthInstance.maxHeartbeats 400000
namespace Go.Proofs.Tryd
open Go.Eng Go.RowKit Go.Lib
variable{N:Nat}{n a b:Int}{α:Type}{s:Str}
theorem q8(n:Nat):θ .u8 (n:Int)=((n%256:Nat):Int):=by rw[IntKind.wrap_u8];omega
theorem q64{x:Int}(h:0<=x)(h':x<18446744073709551616):θ .u64 x=x:=by rw[IntKind.wrap_u64];omega
def I64(n:Int):Prop:=-9223372036854775808<=n/\n<=9223372036854775807
theorem aQy(s:Str)(i:Nat):(aD s)[i]?=(s[i]?).map fun c=>(c.toNat:Int):=by unfold aD;rw[List.getElem?_map]
theorem eW(s:Str):aU (aD s)=s:=by
 unfold aU aD;rw[List.map_map]
 conv=>rhs;rw[<-List.map_id s]
 refine List.map_congr_left fun c _=>?_;show UInt8.ofNat ((c.toNat:Int)).toNat=c;rw[za1];exact UInt8.ofNat_toNat
theorem qB(s t:Str):aD (s++t)=aD s++aD t:=List.map_append
theorem aMl{t:Str}{n:Nat}:aD (t.take n)=(aD t).take n:=by unfold aD;rw[List.map_take]
theorem aDl{t:Str}{n:Nat}:aD (t.drop n)=(aD t).drop n:=by unfold aD;rw[List.map_drop]
theorem bG2(m:Nat):mR (m+1)=qY (mR m):=rfl
theorem aKx:∀(k z m:Nat) (a:List Int),z<128^(k+1)->z<18446744073709551616->k<m->a.length+k<1000000->
  mR m (z:Int) a=some (a++aD (uvarint z))
 |k,z,0,a,_,_,h,_=>by omega
 |k,z,m+1,a,hz,hz2,hm,hal=>by
  rw[bG2];unfold qY;rw[q8];by_cases h:128<=z
  ·obtain⟨k',rfl⟩:∃k',k=k'+1:=⟨k-1,by cases k with
    |zero=>have:128^(0+1)=128:=rfl;omega
    |succ k=>rfl⟩
   have e1:bits .or .u8 ((z%256:Nat):Int) 128=((z%128+128:Nat):Int):=by rw[Go.Lib.u8_or128_any _ (by omega) (by omega)];omega
   have e4:(z:Int)/2^7=((z/128:Nat):Int):=rfl;rw[e1,e4,aJ (decide_eq_true (by omega)),aH,aC (by simp only[bg,za2];omega),aH];rw[aKx k' (z/128) m (a++[((z%128+128:Nat):Int)]) (by have:128^(k'+1+1)=128^(k'+1)*128:=rfl;omega) (by omega) (by omega) (by simp only[κ,bg,za2];omega),uvarint_big h,a9];refine congrArg (fun l=>some (a++l)) ?_;show _::aD (uvarint (z/128))=(((z%128+128).toUInt8.toNat:Nat):Int)::aD (uvarint (z/128));rw[show(z%128+128).toUInt8.toNat=z%128+128 by
    show(z%128+128)%256=_;omega]
  ·rw[aK (decide_eq_false (by omega)),aH,aC (by simp only[bg,za2];omega),aH,uvarint_small (by omega)];refine congrArg (fun l=>some (a++l)) ?_;show[((z%256:Nat):Int)]=[((z.toUInt8.toNat:Nat):Int)];rw[show z.toUInt8.toNat=z%256 from rfl]
theorem aXn(N:Nat)(n:Int)(hN:20<=N)(hn:I64 n):eD N n=some (aD (uvarint (zigzag n))):=by
 obtain⟨h1,h2⟩:=hn;have e1:(2:Int)^63=9223372036854775808:=rfl;have e2:(2:Int)^1=2:=rfl;have hz:zigzag n<18446744073709551616:=by unfold zigzag;split<;>omega
 have key:bits .xor .u64 (θ .u64 ((θ .u64 n)*2)) (θ .u64 (n/9223372036854775808))=((zigzag n:Nat):Int):=by
  by_cases h:0<=n
  ·have hz':zigzag n=(2*n).toNat:=by unfold zigzag;rw[if_pos h]
   rw[show n/9223372036854775808=((0:Nat):Int) by omega,q64 (x:=n) h (by omega),q64 (x:=n*2) (by omega) (by omega),q64 (x:=((0:Nat):Int)) (by omega) (by omega),show n*2=(((2*n).toNat:Nat):Int) by omega,Go.bits_xor_u64_nat _ _ (by omega) (by omega),Nat.xor_zero,hz']
  ·have hz':zigzag n=(-2*n-1).toNat:=by unfold zigzag;rw[if_neg h]
   have w:∀x:Int,θ .u64 x=x%18446744073709551616:=fun x=>IntKind.wrap_u64 x;obtain⟨y,hy,hy2⟩:∃y:Nat,(((n%18446744073709551616)*2)%18446744073709551616:Int)=(y:Int)/\(y:Int)=18446744073709551616+2*n:=⟨(18446744073709551616+2*n).toNat,by omega,by omega⟩;rw[w,w,w,hy,show n/9223372036854775808%18446744073709551616=((18446744073709551615:Nat):Int) by omega,Go.bits_xor_u64_nat _ _ (by omega) (by omega)];have hx:y^^^18446744073709551615=18446744073709551615-y:=by
    rw[Nat.xor_comm];apply Nat.eq_of_testBit_eq;intro i;rw[Nat.testBit_xor,show 18446744073709551615-y=2^64-(y+1) by omega,Nat.testBit_two_pow_sub_succ (by omega),show(18446744073709551615:Nat)=2^64-(0+1)from rfl,Nat.testBit_two_pow_sub_succ (by omega)];by_cases hi:i<64
    ·simp[hi]
    ·have:y.testBit i=false:=Nat.testBit_lt_two_pow (Nat.lt_of_lt_of_le (show y<2^64 by omega) (fw (by decide) (by omega)));simp[hi,this]
   rw[hx,hz'];omega
 unfold eD;rw[e1,e2,key,aKx 9 (zigzag n) N [] (by have:128^(9+1)=1180591620717411303424:=rfl;omega) hz (by omega) (by simp),za3]
def unz(z:Nat):Int:=if z%2=0 then((z/2:Nat):Int)else-((z/2:Nat):Int)-1
def giN:Nat->Nat->Str->Int×Int×Int
 |_,_,[]=>(0,0,10)
 |k,z,c::r=>if(k=9/\1<c.toNat)\/(0<k/\c.toNat=0)then(0,0,11)else if c.toNat<128 then(unz (z+c.toNat%128*128^k),((k+1:Nat):Int),0)else giN (k+1) (z+c.toNat%128*128^k) r
theorem aGi(n:Int)(h₀:0<=n)(h₁:n<2^64):IntKind.u64.wrap n=n:=by rw[IntKind.wrap_u64];omega
theorem aX0(x b:Nat)(hx:x<9223372036854775808)(hb:b<2):bits .xor .i64 (x:Int) (-(b:Int))=if b=0 then(x:Int)else-(x:Int)-1:=by
 obtain rfl|rfl:b=0\/b=1:=by omega
 ·simp only[bits,if_pos];rw[show(-((0:Nat):Int))=((0:Nat):Int)from rfl,jj,jj,BitVec.toNat_xor,jz,jz];rw[show(0%2^IntKind.i64.bits)=0 from rfl,Nat.xor_zero,IntKind.wrap_i64,show IntKind.i64.bits=64 from rfl];omega
 ·rw[if_neg (by decide)];simp only[bits];have hone:BitVec.ofInt IntKind.i64.bits (-((1:Nat):Int))=BitVec.allOnes IntKind.i64.bits:=by decide
  rw[hone,jj,BitVec.xor_allOnes,BitVec.toNat_not,jz,IntKind.wrap_i64,show IntKind.i64.bits=64 from rfl];omega
theorem aR7(z k c:Nat)(hz:z<128^k)(hk:k<=9)(hc:c<256)(h9:k=9->c<=1):
  bits .or .u64 (z:Int) (θ .u64 ((θ .u64 ((bits .and .u8 (c:Int) 127)))*2^(7*(k:Int)).toNat))=((z+c%128*128^k:Nat):Int)/\z+c%128*128^k<18446744073709551616/\(k<9->z+c%128*128^k<128^(k+1)):=by
 have p9:128^k<=9223372036854775808:=cx (fw (by decide) hk) (by decide);have hm:c%128<128:=Nat.mod_lt _ (by decide);have hb:z+c%128*128^k<18446744073709551616/\(k<9->z+c%128*128^k<128^(k+1)):=by
  have e:128^(k+1)=128^k*128:=rfl;have h1:c%128*128^k<=127*128^k:=c8 _ (by omega);refine⟨?_,fun _=>by omega⟩;by_cases h:k=9
  ·subst h;have h2:c%128*128^9<=1*128^9:=c8 _ (by have:=h9 rfl;omega);omega
  ·have p8:128^k<=72057594037927936:=cx (fw (by decide) (show k<=8 by omega)) (by decide);omega
 refine⟨?_,hb⟩;have e1:bits .and .u8 (c:Int) 127=((c%128:Nat):Int):=by have:=bits_mask .u8 8 (by decide) wraps_u8 7 (by decide) (c:Int) (by omega) (by omega);rw[show((2:Int)^7-1)=127 from rfl]at this;rw[this];omega
 have e2:(2:Int)^(7*(k:Int)).toNat=((128^k:Nat):Int):=by rw[show(7*(k:Int)).toNat=7*k by omega,Int.pow_mul];simp
 have hx:c%128*128^k<18446744073709551616:=by omega
 rw[e1,q64 (x:=((c%128:Nat):Int)) (by omega) (by omega),e2,<-Int.natCast_mul,q64 (x:=((c%128*128^k:Nat):Int)) (by omega) (by omega),(bits_nat .u64 64 (by decide) aGi _ _ (by omega) (by omega)).2];congr 1;have e3:128^k=2^(7*k):=by rw[Nat.pow_mul]
 rw[e3]at hz|-;have:=Nat.shiftLeft_add_eq_or_of_lt hz (c%128);rw[Nat.shiftLeft_eq]at this;rw[Nat.or_comm,<-this,Nat.add_comm]
def giL:Nat->Nat->Str->TI⊕TM
 |_,z,[]=>.inr ((z:Int),0)
 |k,z,c::r=>if(k=9/\1<c.toNat)\/(0<k/\c.toNat=0)then .inl (0,(0,11))else if c.toNat<128 then .inr (((z+c.toNat%128*128^k:Nat):Int),((k+1:Nat):Int))else giL (k+1) (z+c.toNat%128*128^k) r
def giT:TI⊕TM->Int×Int×Int
 |.inl r=>r
 |.inr v=>if v.2=0 then(0,0,10)else(unz v.1.toNat,v.2,0)
theorem bAf:∀(r:Str) (k z:Nat),giT (giL k z r)=giN k z r
 |[],k,z=>rfl
 |c::r,k,z=>by
  rw[giL,giN];by_cases h:(k=9/\1<c.toNat)\/(0<k/\c.toNat=0)
  ·rw[if_pos h,if_pos h];rfl
  ·rw[if_neg h,if_neg h];by_cases h2:c.toNat<128
   ·rw[if_pos h2,if_pos h2];unfold giT;dsimp only;rw[if_neg (by omega),za1]
   ·rw[if_neg h2,if_neg h2];exact bAf r _ _
theorem bAh:∀(r:Str) (k z:Nat) (v:Int×Int),k<=9->z<128^k->giL k z r=.inr v->∃y:Nat,v.1=(y:Int)/\y<18446744073709551616/\∃u:Nat,v.2=(u:Int)
 |[],k,z,v,hk,hz,h=>by
  cases h;have p9:128^k<=9223372036854775808:=cx (fw (by decide) hk) (by decide);exact⟨z,rfl,by omega,0,rfl⟩
 |c::r,k,z,v,hk,hz,h=>by
  rw[giL]at h;have hcl:=c.toNat_lt;by_cases hb:(k=9/\1<c.toNat)\/(0<k/\c.toNat=0)
  ·rw[if_pos hb]at h;cases h
  ·rw[if_neg hb]at h;obtain⟨_,h2,h3⟩:=aR7 z k c.toNat hz hk (by omega) (by omega);by_cases hh:c.toNat<128
   ·rw[if_pos hh]at h;cases h;exact⟨_,rfl,h2,k+1,rfl⟩
   ·rw[if_neg hh]at h;exact bAh r (k+1) _ v (by omega) (h3 (by omega)) h
theorem bFa(m:Nat):fG (m+1)=iX (fG m):=rfl
theorem aOs(s:Str):∀(r:Str) (k z m:Nat),s.drop k=r->k<=9->z<128^k->10<m+k->fG m (z:Int) 0 (aD s) (((aD s).length:Nat):Int) (k:Int)=some (giL k z r)
 |r,k,z,0,_,_,_,h=>by omega
 |[],k,z,m+1,hr,hk,hz,hm=>by
  have:s.length<=k:=by have:=congrArg List.length hr;rw[υ,za2]at this;omega
  rw[bFa];unfold iX;rw[bW,aK (decide_eq_false (by omega))];rfl
 |c::r,k,z,m+1,hr,hk,hz,hm=>by
  have hlen:k<s.length:=by have:=congrArg List.length hr;rw[υ,bg]at this;omega
  have hc:s[k]=c:=by have:=congrArg (·[0]?) hr;simp only[List.getElem?_drop,Nat.add_zero,List.getElem?_cons_zero]at this;rw[ν hlen]at this;exact Option.some.inj this
  have hr':s.drop (k+1)=r:=by have:=congrArg List.tail hr;rw[List.tail_drop]at this;exact this
  have hcl:=c.toNat_lt;have hget:(aD s)[k]?=some (c.toNat:Int):=by rw[aQy,ν hlen,hc];rfl
  have rec_:=fun z' h1 h2 h3=>aOs s r (k+1) z' m hr' h1 h2 h3;rw[bFa,giL];unfold iX;rw[bW]at rec_|-;rw[aJ (decide_eq_true (by omega)),gM hget];generalize hcn:c.toNat=d at*;by_cases hbad:(k=9/\1<d)\/(0<k/\d=0)
  ·rw[if_pos hbad];by_cases h9:k=9
   ·subst h9;rw[show(((9:Nat):Int)==9)=true from rfl,aM,aB];dsimp only;by_cases h1:1<d
    ·rw[aJ (decide_eq_true (by omega)),aB];rfl
    ·have h0:d=0:=by omega
     subst h0;rfl
   ·have hd:0<k/\d=0:=by omega
    rw[show((k:Int)==9)=false by rw[beq_eq_false_iff_ne];omega,aO,aB];dsimp only;rw[aO,aJ (decide_eq_true (by omega)),aB];dsimp only;rw[show((d:Int)==0)=true by rw[beq_iff_eq];omega,aM];rfl
  ·rw[if_neg hbad];obtain⟨e1,e2,e3⟩:=aR7 z k d hz hk (by omega) (by omega);have fin:∀x:Bool,x=false->(bd? (some ((z:Int),(0:Int),(k:Int),(d:Int),aD s,(s.length:Int),(k:Int),x)) fun w10=>if? (w10.2.2.2.2.2.2.2) (jN (some ((0,(0,11))))) (ck .i64 ((7*w10.2.2.1)) (gd? ((0<=(7*w10.2.2.1))) (gd? (((7*w10.2.2.1)<=(((IntKind.bits .u64):Nat):Int))) (if? (decide (w10.2.2.2.1<128)) (ck .i64 ((w10.2.2.1+1)) (some (.inr ((bits .or .u64 w10.1 (θ .u64 ((θ .u64 (bits .and .u8 w10.2.2.2.1 127))*(2^(7*w10.2.2.1).toNat)))),(w10.2.2.1+1))))) (ck .i64 ((w10.2.2.2.2.2.2.1+1)) (fG m (bits .or .u64 w10.1 (θ .u64 ((θ .u64 (bits .and .u8 w10.2.2.2.1 127))*(2^(7*w10.2.2.1).toNat)))) w10.2.1 w10.2.2.2.2.1 w10.2.2.2.2.2.1 (w10.2.2.2.2.2.2.1+1))))))))=some (if d<128 then .inr (((z+d%128*128^k:Nat):Int),((k+1:Nat):Int))else giL (k+1) (z+d%128*128^k) r):=by
    intro x hx;subst hx;rw[aB];dsimp only;rw[aO,bF (by omega) (by omega),aC (by omega),aC (by show _<=((64:Nat):Int);omega),e1];by_cases hh:d<128
    ·rw[aJ (decide_eq_true (by omega)),bF (by omega) (by omega),if_pos hh,show(k:Int)+1=((k+1:Nat):Int) by omega]
    ·rw[aK (decide_eq_false (by omega)),bF (by omega) (by omega),if_neg hh,show(k:Int)+1=((k+1:Nat):Int) by omega];exact rec_ _ (by omega) (e3 (by omega)) (by omega)
   by_cases h9:k=9
   ·rw[show((k:Int)==9)=true by rw[beq_iff_eq];omega,aM,aB];dsimp only;rw[aK (decide_eq_false (by omega)),aJ (decide_eq_true (by omega))];exact fin _ (by rw[beq_eq_false_iff_ne];omega)
   ·rw[show((k:Int)==9)=false by rw[beq_eq_false_iff_ne];omega,aO,aB];dsimp only;rw[aO];by_cases h0:0<k
    ·rw[aJ (decide_eq_true (by omega))];exact fin _ (by rw[beq_eq_false_iff_ne];omega)
    ·rw[aK (decide_eq_false (by omega))];exact fin _ rfl
def gi(s:Str):Int×Int×Int:=giN 0 0 s
theorem aA4(hN:11<=N)(s:Str):fO N (aD s)=some (gi s):=by
 unfold fO;have h:=aOs s s 0 0 N rfl (by omega) (by decide) (by omega);rw[show(((0:Nat):Int))=0 from rfl]at h;rw[h];unfold gi;rw[<-bAf];cases e:giL 0 0 s with
 |inl r=>rfl
 |inr v=>
  obtain⟨y,h1,h2,u,h3⟩:=bAh s 0 0 v (by omega) (by decide) e;obtain⟨a,b⟩:=v;dsimp only at h1 h3;subst h1 h3;rw[aF1];dsimp only[giT];by_cases hu:u=0
  ·subst hu;rfl
  ·have e5:bits .and .u64 (y:Int) 1=((y%2:Nat):Int):=by have:=bits_mask .u64 64 (by decide) aGi 1 (by decide) (y:Int) (by omega) (by omega);rw[show((2:Int)^1-1)=1 from rfl]at this;rw[this];omega
   have e4:(y:Int)/2^1=((y/2:Nat):Int):=rfl;rw[aK (by rw[beq_eq_false_iff_ne];omega),e5,e4,xN (n:=((y%2:Nat):Int)) (by omega) (by omega),xN (n:=((y/2:Nat):Int)) (by omega) (by omega),bF (by omega) (by omega),aX0 _ _ (by omega) (by omega),if_neg (show¬((u:Int)=0) by omega),za1];rfl
set_option maxRecDepth 8000
set_option synthInstance.maxSize 100000
set_option synthInstance.maxHeartbeats 400000
theorem aW4{z:Nat}(h:z<18446744073709551616):I64 (unz z):=by unfold unz I64;split<;>omega
theorem aU2:∀(s:Str) (k z:Nat),k<=9->z<128^k->(((giN k z s).2.2=0/\∃u:Nat,(giN k z s).2.1=(u:Int)/\k+1<=u/\u<=k+s.length/\u<=10/\I64 (giN k z s).1)\/((giN k z s).1=0/\(giN k z s).2.1=0/\((giN k z s).2.2=10\/(giN k z s).2.2=11)))
 |[],k,z,_,_=>.inr ⟨rfl,rfl,.inl rfl⟩
 |c::s,k,z,hk,hz=>by
  rw[giN];by_cases hb:(k=9/\1<c.toNat)\/(0<k/\c.toNat=0)
  ·rw[if_pos hb];exact .inr ⟨rfl,rfl,.inr rfl⟩
  ·rw[if_neg hb];have hcl:=c.toNat_lt;obtain⟨_,h2,h3⟩:=aR7 z k c.toNat hz hk (by omega) (by omega);by_cases hh:c.toNat<128
   ·rw[if_pos hh];exact .inl ⟨rfl,k+1,rfl,by omega,by simp only[bg];omega,by omega,aW4 h2⟩
   ·rw[if_neg hh];have hk9:k<9:=by omega
    rcases aU2 s (k+1) _ (by omega) (h3 hk9)with⟨e,u,h1,h2,h3,h4,h5⟩|h
    ·exact .inl ⟨e,u,h1,by omega,by simp only[bg];omega,h4,h5⟩
    ·exact .inr h
theorem aP4(s:Str):((gi s).2.2=0/\∃u:Nat,(gi s).2.1=(u:Int)/\1<=u/\u<=s.length/\u<=10/\I64 (gi s).1)\/((gi s).1=0/\(gi s).2.1=0/\((gi s).2.2=10\/(gi s).2.2=11)):=by
 rcases aU2 s 0 0 (by omega) (by decide)with⟨e,u,h1,h2,h3,h4,h5⟩|h
 ·exact .inl ⟨e,u,h1,by omega,by omega,h4,h5⟩
 ·exact .inr h
def eG(s:Str):Int×Int×Int:=
 if(gi s).2.2≠0 then(0,0,(gi s).2.2)else if(gi s).1<0 then(0,0,11)else if(gi s).1>(s.length:Int)-(gi s).2.1 then(0,0,10)else((gi s).1,(gi s).2.1,0)
theorem vW(h:a=b):(a !=b)=false:=by rw[bne_eq_false_iff_eq];exact h
theorem vX(h:a≠b):(a !=b)=true:=by rw[bne_iff_ne];exact h
theorem aBd(hN:11<=N)(s:Str)(hs:s.length<=1000000):fP N (aD s) 1=some (eG s):=by
 unfold fP eG;rw[aA4 hN,aB,bW];rcases aP4 s with⟨e,u,h1,h2,h3,h4,h5⟩|⟨h1,h2,h3⟩
 ·obtain⟨b1,b2⟩:=h5;rw[vW e,aO,if_neg (by rw[e];simp),h1,Int.tdiv_one];by_cases hn:(gi s).1<0
  ·rw[aJ (decide_eq_true hn),if_pos hn]
  ·rw[aK (decide_eq_false hn),if_neg hn,bF (by omega) (by omega),aC (by decide),bF (by omega) (by omega)];by_cases hg:(gi s).1>(s.length:Int)-(u:Int)
   ·rw[aJ (decide_eq_true hg),if_pos hg]
   ·rw[aK (decide_eq_false hg),if_neg hg]
 ·have hne:(gi s).2.2≠0:=by omega
  rw[vX hne,aM,if_pos hne]
theorem vG(s:Str):((eG s).2.2=0/\∃n u:Nat,eG s=((n:Int),(u:Int),0)/\1<=u/\n+u<=s.length)\/((eG s).1=0/\(eG s).2.1=0/\((eG s).2.2=10\/(eG s).2.2=11)):=by
 unfold eG;rcases aP4 s with⟨e,u,h1,h2,h3,h4,h5⟩|⟨h1,h2,h3⟩
 ·rw[if_neg (by rw[e];simp)];by_cases hn:(gi s).1<0
  ·rw[if_pos hn];exact .inr ⟨rfl,rfl,.inr rfl⟩
  ·rw[if_neg hn];by_cases hg:(gi s).1>(s.length:Int)-(gi s).2.1
   ·rw[if_pos hg];exact .inr ⟨rfl,rfl,.inl rfl⟩
   ·rw[if_neg hg];refine .inl ⟨rfl,(gi s).1.toNat,u,?_,h2,by omega⟩;rw[h1,Int.toNat_of_nonneg (by omega)]
 ·rw[if_pos (by omega)];exact .inr ⟨rfl,rfl,h3⟩
def wF:Nat->Str->Int->List Int->List Int×Int×Int
 |0,_,a,acc=>(acc,a,0)
 |n+1,r,a,acc=>if(gi r).2.2≠0 then([],0,(gi r).2.2)else wF n (r.drop (gi r).2.1.toNat) (a+(gi r).2.1) (acc++[(gi r).1])
theorem aF9(s:Str)(a:Nat):((aD s).drop a).take ((aD s).length-a)=aD (s.drop a):=by rw[aDl,bn (by rw[υ];exact π _)]
theorem aZq(N m:Nat):iC N (m+1)=gV N (iC N m):=rfl
def swp{α:Type}(v:α×Int×Int):Int×(Int×α):=(v.2.1,(v.2.2,v.1))
theorem aEe{N:Nat}(hN:11<=N)(s:Str)(v:Nat)(hs:s.length<=1000000):∀(n a b m:Nat) (acc:List Int),v=b+n->a<=s.length->b+n<=1000000->acc.length=b->n<m->
  iC N m (aD s) (a:Int) (v:Int) (b:Int) acc=some (swp (wF n (s.drop a) (a:Int) acc))
 |n,a,b,0,acc,_,_,_,_,h=>by omega
 |0,a,b,m+1,acc,hv,ha,hb,hacc,_=>by
  rw[aZq];unfold gV;rw[aK (decide_eq_false (by omega)),aH];rfl
 |n+1,a,b,m+1,acc,hv,ha,hb,hacc,hm=>by
  rw[aZq];unfold gV;rw[aJ (decide_eq_true (by omega)),aC (by omega),za1,aC (by rw[bW];exact ha),aC (π _),aF9,aA4 hN,aB,wF];rcases aP4 (s.drop a)with⟨e,u,h1,h2,h3,h4,h5⟩|⟨h1,h2,h3⟩
  ·rw[υ]at h3;rw[vW e,aO,if_neg (by rw[e];simp),aH,aC (by simp only[bg,za2];omega),h1,bF (by omega) (by omega),bF (by omega) (by omega),aH,show((a:Int)+(u:Int))=((a+u:Nat):Int) by omega,show((b:Int)+1)=((b+1:Nat):Int) by omega,
    aEe hN s v hs n (a+u) (b+1) m _ (by omega) (by omega) (by omega) (by simp[hacc]) (by omega),za1,eg]
  ·have hne:(gi (s.drop a)).2.2≠0:=by omega
   rw[vX hne,aM,if_pos hne];rfl
def cB(s:Str):List Int×Int×Int:=if(eG s).2.2≠0 then([],0,(eG s).2.2)else wF (eG s).1.toNat (s.drop (eG s).2.1.toNat) (eG s).2.1 []
theorem aE5(s:Str)(hN:11<=N)(hs:s.length<N)(hb:s.length<=1000000):gK N (aD s)=some (swp (cB s)):=by
 unfold gK nN cB;rw[aBd hN s hb,aB];rcases vG s with⟨e,n,u,h1,h2,h3⟩|⟨h1,h2,h3⟩
 ·rw[vW e,aO,if_neg (by rw[e];simp)];have e1:(eG s).1=(n:Int):=by rw[h1]
  have e2:(eG s).2.1=(u:Int):=by rw[h1]
  rw[e2,e1];have:=aEe hN s n hb n u 0 N [] (by omega) (by omega) (by omega) rfl (by omega);rw[show(((0:Nat):Int))=0 from rfl]at this;rw[this,aB,za1,za1,aH]
  try rfl
 ·have hne:(eG s).2.2≠0:=by omega
  rw[vX hne,aM,if_pos hne,aB,aH]
  try rfl
def eT(s:Str):Str×Int×Int:=if(eG s).2.2≠0 then([],0,(eG s).2.2)else((s.drop (eG s).2.1.toNat).take (eG s).1.toNat,(eG s).2.1+(eG s).1,0)
theorem aK4(s:Str)(hN:11<=N)(hb:s.length<=1000000):iW N (aD s)=some (eT s):=by
 unfold iW eT;rw[aBd hN s hb,aB];rcases vG s with⟨e,n,u,h1,h2,h3⟩|⟨h1,h2,h3⟩
 ·rw[vW e,aO,if_neg (by rw[e];simp)];have e1:(eG s).1=(n:Int):=by rw[h1]
  have e2:(eG s).2.1=(u:Int):=by rw[h1]
  rw[e1,e2,bF (by omega) (by omega),aC (by omega),aC (by omega),aC (by omega),aC (by rw[bW];omega),bF (by omega) (by omega),za1,za1,show((u:Int)+(n:Int)).toNat-u=n by omega,<-aDl,<-aMl,eW]
 ·have hne:(eG s).2.2≠0:=by omega
  rw[vX hne,aM,if_pos hne]
theorem aGk(s:Str):((eT s).2.2=0/\∃u:Nat,(eT s).2.1=(u:Int)/\1<=u/\u<=s.length/\(eT s).1.length<=s.length)\/((eT s).1=[]/\(eT s).2.1=0/\((eT s).2.2=10\/(eT s).2.2=11)):=by
 unfold eT;rcases vG s with⟨e,n,u,h1,h2,h3⟩|⟨h1,h2,h3⟩
 ·rw[if_neg (by rw[e];simp)];refine .inl ⟨rfl,u+n,by rw[h1];rfl,by omega,by omega,?_⟩;show((s.drop _).take _).length<=_;rw[List.length_take,υ];omega
 ·rw[if_pos (by omega)];exact .inr ⟨rfl,rfl,h3⟩
def wP:Nat->Str->Int->List Str->List Str×Int×Int
 |0,_,a,acc=>(acc,a,0)
 |n+1,r,a,acc=>if(eT r).2.2≠0 then([],0,(eT r).2.2)else wP n (r.drop (eT r).2.1.toNat) (a+(eT r).2.1) (acc++[(eT r).1])
theorem aZm(N m:Nat):eM N (m+1)=eL N (eM N m):=rfl
theorem aFl{N:Nat}(hN:11<=N)(s:Str)(v:Nat)(hs:s.length<=1000000):∀(n a b m:Nat) (acc:List Str),v=b+n->a<=s.length->b+n<=1000000->acc.length=b->n<m->
  eM N m (aD s) (a:Int) (v:Int) (b:Int) acc=some (swp (wP n (s.drop a) (a:Int) acc))
 |n,a,b,0,acc,_,_,_,_,h=>by omega
 |0,a,b,m+1,acc,hv,ha,hb,hacc,_=>by
  rw[aZm];unfold eL;rw[aK (decide_eq_false (by omega)),aH];rfl
 |n+1,a,b,m+1,acc,hv,ha,hb,hacc,hm=>by
  rw[aZm];unfold eL;rw[aJ (decide_eq_true (by omega)),aC (by omega),za1,aC (by rw[bW];exact ha),aC (π _),aF9,aK4 _ hN (by rw[υ];omega),aB,wP];rcases aGk (s.drop a)with⟨e,u,h1,h2,h3,h4⟩|⟨h1,h2,h3⟩
  ·rw[υ]at h3;rw[vW e,aO,if_neg (by rw[e];simp),aH,aC (by simp only[bg,za2];omega),h1,bF (by omega) (by omega),bF (by omega) (by omega),aH,show((a:Int)+(u:Int))=((a+u:Nat):Int) by omega,show((b:Int)+1)=((b+1:Nat):Int) by omega,
    aFl hN s v hs n (a+u) (b+1) m _ (by omega) (by omega) (by omega) (by simp[hacc]) (by omega),za1,eg]
  ·have hne:(eT (s.drop a)).2.2≠0:=by omega
   rw[vX hne,aM,if_pos hne];rfl
def sZ(s:Str):List Str×Int×Int:=if(eG s).2.2≠0 then([],0,(eG s).2.2)else wP (eG s).1.toNat (s.drop (eG s).2.1.toNat) (eG s).2.1 []
theorem aFv(s:Str)(hN:11<=N)(hs:s.length<N)(hb:s.length<=1000000):gB N (aD s)=some (swp (sZ s)):=by
 unfold gB kA sZ;rw[aBd hN s hb,aB];rcases vG s with⟨e,n,u,h1,h2,h3⟩|⟨h1,h2,h3⟩
 ·rw[vW e,aO,if_neg (by rw[e];simp)];have e1:(eG s).1=(n:Int):=by rw[h1]
  have e2:(eG s).2.1=(u:Int):=by rw[h1]
  rw[e2,e1];have:=aFl hN s n hb n u 0 N [] (by omega) (by omega) (by omega) rfl (by omega);rw[show(((0:Nat):Int))=0 from rfl]at this;rw[this,aB,za1,za1,aH]
  try rfl
 ·have hne:(eG s).2.2≠0:=by omega
  rw[vX hne,aM,if_pos hne,aB,aH]
  try rfl
theorem kS(h:a=b):(a==b)=true:=by rw[beq_iff_eq];exact h
theorem jD(h:a≠b):(a==b)=false:=by rw[beq_eq_false_iff_ne];exact h
theorem aLk:∀(n:Nat) (r:Str) (a:Nat) (acc:List Int),(∀x∈acc,I64 x)->((wF n r (a:Int) acc).2.2=0/\∃u:Nat,(wF n r (a:Int) acc).2.1=(u:Int)/\a<=u/\u<=a+r.length/\(wF n r (a:Int) acc).1.length=acc.length+n/\∀x∈(wF n r (a:Int) acc).1,I64 x)\/((wF n r (a:Int) acc).2.2≠0)
 |0,r,a,acc,h=>.inl ⟨rfl,a,rfl,by omega,by omega,rfl,h⟩
 |n+1,r,a,acc,h=>by
  rw[wF];rcases aP4 r with⟨e,u,h1,h2,h3,h4,h5⟩|⟨h1,h2,h3⟩
  ·rw[if_neg (by rw[e];simp),h1,show((a:Int)+(u:Int))=((a+u:Nat):Int) by omega,za1];rcases aLk n (r.drop u) (a+u) (acc++[(gi r).1]) (fun x hx=>by
    rcases dj.1 hx with hx|hx
    ·exact h x hx
    ·rw[bo.1 hx];exact h5)with⟨e',u',g1,g2,g3,g4,g5⟩|g
   ·rw[υ]at g3;exact .inl ⟨e',u',g1,by omega,by omega,by rw[g4];simp;omega,g5⟩
   ·exact .inr g
  ·have hne:(gi r).2.2≠0:=by omega
   rw[if_pos hne];exact .inr hne
theorem aDk(s:Str):((cB s).2.2=0/\∃u:Nat,(cB s).2.1=(u:Int)/\u<=s.length/\(cB s).1.length<=s.length/\∀x∈(cB s).1,I64 x)\/((cB s).2.2≠0):=by
 unfold cB;rcases vG s with⟨e,n,u,h1,h2,h3⟩|⟨h1,h2,h3⟩
 ·rw[if_neg (by rw[e];simp)];have e1:(eG s).1=(n:Int):=by rw[h1]
  have e2:(eG s).2.1=(u:Int):=by rw[h1]
  rw[e1,e2,za1,za1];rcases aLk n (s.drop u) u [] (fun x hx=>by cases hx)with⟨e',u',g1,g2,g3,g4,g5⟩|g
  ·rw[υ]at g3;exact .inl ⟨e',u',g1,by omega,by rw[g4];simp;omega,g5⟩
  ·exact .inr g
 ·have hne:(eG s).2.2≠0:=by omega
  rw[if_pos hne];exact .inr hne
theorem aLc:∀(n:Nat) (r:Str) (a:Nat) (acc:List Str),((wP n r (a:Int) acc).2.2=0/\∃u:Nat,(wP n r (a:Int) acc).2.1=(u:Int)/\a<=u/\u<=a+r.length/\(wP n r (a:Int) acc).1.length=acc.length+n/\∀b:Nat,r.length<=b->(∀x∈acc,x.length<=b)->∀x∈(wP n r (a:Int) acc).1,x.length<=b)\/((wP n r (a:Int) acc).2.2≠0)
 |0,r,a,acc=>.inl ⟨rfl,a,rfl,by omega,by omega,rfl,fun _ _ h=>h⟩
 |n+1,r,a,acc=>by
  rw[wP];rcases aGk r with⟨e,u,h1,h2,h3,h4⟩|⟨h1,h2,h3⟩
  ·rw[if_neg (by rw[e];simp),h1,show((a:Int)+(u:Int))=((a+u:Nat):Int) by omega,za1];rcases aLc n (r.drop u) (a+u) (acc++[(eT r).1])with⟨e',u',g1,g2,g3,g4,g5⟩|g
   ·rw[υ]at g3;refine .inl ⟨e',u',g1,by omega,by omega,by rw[g4];simp;omega,fun b hb hx=>g5 b (by rw[υ];omega) fun x hx'=>?_⟩;rcases dj.1 hx' with hx'|hx'
    ·exact hx x hx'
    ·rw[bo.1 hx'];omega
   ·exact .inr g
  ·have hne:(eT r).2.2≠0:=by omega
   rw[if_pos hne];exact .inr hne
theorem aLd(s:Str):((sZ s).2.2=0/\∃u:Nat,(sZ s).2.1=(u:Int)/\u<=s.length/\(sZ s).1.length<=s.length/\∀x∈(sZ s).1,x.length<=s.length)\/((sZ s).2.2≠0):=by
 unfold sZ;rcases vG s with⟨e,n,u,h1,h2,h3⟩|⟨h1,h2,h3⟩
 ·rw[if_neg (by rw[e];simp)];have e1:(eG s).1=(n:Int):=by rw[h1]
  have e2:(eG s).2.1=(u:Int):=by rw[h1]
  rw[e1,e2,za1,za1];rcases aLc n (s.drop u) u []with⟨e',u',g1,g2,g3,g4,g5⟩|g
  ·rw[υ]at g3;exact .inl ⟨e',u',g1,by omega,by rw[g4];simp;omega,g5 s.length (by rw[υ];omega) fun x hx=>by cases hx⟩
  ·exact .inr g
 ·have hne:(eG s).2.2≠0:=by omega
  rw[if_pos hne];exact .inr hne
def hd(s:Str)(k:Int)(c:Nat)(more:Bool):Option (List Int×List Str):=
 if(cB s).2.2=0/\(cB s).1.length=c/\(cB s).1.getD 0 0=k then
  if more=true then
   if(sZ (s.drop (cB s).2.1.toNat)).2.2=0/\(cB s).2.1+(sZ (s.drop (cB s).2.1.toNat)).2.1=(s.length:Int)then some ((cB s).1,(sZ (s.drop (cB s).2.1.toNat)).1)else none
  else if(cB s).2.1=(s.length:Int)then some ((cB s).1,[])else none
 else none
theorem aR0(s:Str)(a:Nat):(s.drop a).take (s.length-a)=s.drop a:=bn (by rw[υ];exact π _)
def oS{α:Type}:Option α->α⊕Unit
 |some x=>.inl x
 |none=>.inr ()
theorem uZ(N:Nat){b:Bool}(h:b=true):bC N b=some (.inl ()):=by subst h;rfl
theorem jY(N:Nat){b:Bool}(h:b=false):bC N b=some (.inr ()):=by subst h;rfl
theorem aJf(s:Str)(k:Int)(c:Nat)(more:Bool)(hN:11<=N)(hs:s.length<N)(hb:s.length<=1000000)(hc:1<=c):jF N s k (c:Int) more=some (oS (hd s k c more)):=by
 unfold jF hd;rw[aE5 s hN hs hb,aB];unfold swp;dsimp only;rcases aDk s with⟨e,u,h1,h2,h3,h4⟩|h
 ·rw[kS e,aM];by_cases hl:(cB s).1.length=c
  ·obtain⟨x,r,hx⟩:∃x r,(cB s).1=x::r:=by
    cases hg:(cB s).1 with
    |nil=>rw[hg]at hl;simp at hl;omega
    |cons x r=>exact⟨x,r,rfl⟩
   have hg0:(cB s).1[0]?=some x:=by rw[hx];rfl
   have hgD:(cB s).1.getD 0 0=x:=by rw[hx];rfl
   rw[kS (show((cB s).1.length:Int)=(c:Int) by omega),aM,aC (by omega),aYe hg0,hgD];by_cases hk:x=k
   ·rw[uZ N (kS hk),aB,oC,aH,aF1,if_pos ⟨e,hl,hk⟩];dsimp only;cases more with
    |true=>
     rw[Bool.not_true,aO,if_pos rfl,h1,za1,aC (by omega),aC h2,aC (π _),aR0,aFv _ hN (by rw[υ];omega) (by rw[υ];omega),aB];unfold swp;dsimp only;rcases aLd (s.drop u)with⟨e',u',g1,g2,g3,g4⟩|g
     ·rw[υ]at g2;rw[kS e',aM,g1,bF (by omega) (by omega)];by_cases hh:(u:Int)+(u':Int)=(s.length:Int)
      ·rw[uZ N (kS hh),aB,oC,aH,aH,aF1,if_pos ⟨e',hh⟩];dsimp only;rw[aH,aH];rfl
      ·rw[jY N (jD hh),aB,lT,nL,xH,if_neg (fun q=>hh q.2)];rfl
     ·rw[jD g,aO,jY N rfl,aB,lT,nL,xH,if_neg (fun q=>g q.1)];rfl
    |false=>
     rw[Bool.not_false,aM,if_neg (by decide)];by_cases hh:(cB s).2.1=(s.length:Int)
     ·rw[uZ N (kS hh),aB,oC,aH,if_pos hh];rfl
     ·rw[jY N (jD hh),aB,lT,if_neg hh];rfl
   ·rw[jY N (jD hk),aB,lT,nL,xH,if_neg (fun q=>hk q.2.2)];rfl
  ·rw[jD (show((cB s).1.length:Int)≠(c:Int) by omega),aO,jY N rfl,aB,lT,nL,xH,if_neg (fun q=>hl q.2.1)];rfl
 ·rw[jD h,aO,jY N rfl,aB,lT,nL,xH,if_neg (fun q=>h q.1)];rfl
theorem aSv{k:Int}{c:Nat}{more:Bool}{v:List Int×List Str}(h:hd s k c more=some v):v.1.length=c/\(∀x∈v.1,I64 x)/\v.2.length<=s.length/\∀x∈v.2,x.length<=s.length:=by
 unfold hd at h;split at h
 ·rename_i hh;obtain⟨e,hl,hk⟩:=hh;rcases aDk s with⟨_,u,h1,h2,h3,h4⟩|g
  ·split at h
   ·split at h
    ·rename_i hh;cases h;rcases aLd (s.drop (cB s).2.1.toNat)with⟨_,u',g1,g2,g3,g4⟩|g
     ·rw[υ]at g3 g4;exact⟨hl,h4,cx g3 (Nat.sub_le _ _),fun x hx=>cx (g4 x hx) (Nat.sub_le _ _)⟩
     ·exact absurd hh.1 g
    ·cases h
   ·split at h
    ·cases h;exact⟨hl,h4,by simp,fun x hx=>by cases hx⟩
    ·cases h
  ·exact absurd e g
 ·cases h
def uvI(n:Int):Str:=uvarint (zigzag n)
def aZa(l:List Int):Str:=uvI (l.length:Int)++l.flatMap uvI
def mE(s:Str):Str:=uvI (s.length:Int)++s
theorem aMw(h:I64 n):zigzag n<18446744073709551616:=by obtain⟨h1,h2⟩:=h;unfold zigzag;split<;>omega
theorem aWi(n:Int):unz (zigzag n)=n:=by unfold unz zigzag;split<;>split<;>omega
theorem lG(h:I64 n):1<=(uvI n).length/\(uvI n).length<=10:=⟨uvarint_pos _,uvarint_length64 (aMw h)⟩
theorem aYu(r:Str):∀(x k z:Nat),z+x*128^k<18446744073709551616->(0<x\/k=0)->giN k z (uvarint x++r)=(unz (z+x*128^k),((k+(uvarint x).length:Nat):Int),0):=by
 intro x
 induction x using Nat.strongRecOn with
 |_ x ih=>
  intro k z hb h0;have h9:k=9->x<=1:=fun e=>by subst e;have:128^9=9223372036854775808:=rfl;rw[this]at hb;omega
  by_cases hx:x<128
  ·rw[uvarint_small hx,List.singleton_append,giN];have hc:x.toUInt8.toNat=x:=by show x%256=x;omega
   rw[hc,if_neg (by omega),if_pos hx,Nat.mod_eq_of_lt hx];rfl
  ·rw[uvarint_big (by omega),List.cons_append,giN];have hc:(x%128+128).toUInt8.toNat=x%128+128:=by show(x%128+128)%256=_;omega
   have e:z+x%128*128^k+x/128*128^(k+1)=z+x*128^k:=by
    have h1:x/128*128^(k+1)=(x/128*128)*128^k:=by rw[Nat.pow_succ,Nat.mul_comm (128^k) 128,Nat.mul_assoc]
    rw[h1,Nat.add_assoc,<-Nat.add_mul];congr 2;omega
   rw[hc,if_neg (by omega),if_neg (by omega),show(x%128+128)%128=x%128 by omega,ih (x/128) (by omega) (k+1) _ (by rw[e];exact hb) (.inl (by omega)),e,bg];have:k+1+(uvarint (x/128)).length=k+((uvarint (x/128)).length+1):=by omega
   rw[this]
theorem aMm(h:I64 n)(r:Str):gi (uvI n++r)=(n,((uvI n).length:Int),0):=by unfold gi uvI;rw[aYu r (zigzag n) 0 0 (by have:=aMw h;omega) (.inr rfl),Nat.zero_add,Nat.pow_zero,Nat.mul_one,aWi,Nat.zero_add]
theorem lM{n:Nat}(h:n<=1000000):I64 (n:Int):=⟨by omega,by omega⟩
theorem aR3{n:Nat}(h:n<=1000000)(r:Str)(hr:n<=r.length):eG (uvI (n:Int)++r)=((n:Int),((uvI (n:Int)).length:Int),0):=by unfold eG;rw[aMm (lM h)];rw[if_neg (by simp),if_neg (by simp only;omega),if_neg (by simp only[κ];omega)]
theorem aVz(a b:List α):(a++b).drop a.length=b:=by rw[List.drop_append,dg (π _),za3,Nat.sub_self,da]
theorem aT8(a b:List α):(a++b).take a.length=a:=by rw[List.take_append,bn (π _),Nat.sub_self,List.take_zero,bj]
theorem aD1(h:s.length<=1000000)(r:Str):eT (mE s++r)=(s,((mE s).length:Int),0):=by unfold eT mE;rw[a9,aR3 h _ (by rw[κ];omega),if_neg (by simp)];show(((uvI (s.length:Int)++(s++r)).drop ((uvI (s.length:Int)).length:Int).toNat).take (s.length:Int).toNat,_,_)=_;rw[za1,za1,aVz,aT8,κ];refine congrArg (fun x=>(s,x,(0:Int))) ?_;show((uvI (s.length:Int)).length:Int)+(s.length:Int)=_;omega
theorem aK3(h:s.length<=1000000):1<=(mE s).length:=by unfold mE;have:=(lG (lM h)).1;rw[κ];omega
abbrev Rd:=Int×(Int×TN)
abbrev Pt:=Int×(Bool×(Str×Str))
theorem kN{l:List α}{i:Nat}(h:i<l.length):l.drop i=l[i]::l.drop (i+1):=List.drop_eq_getElem_cons h
theorem aJl(hN:20<=N)(hn:I64 n):eD N n=some (aD (uvI n)):=aXn N n hN hn
theorem aRr(hN:20<=N)(s:Str)(hs:s.length<=1000000):mQ N s=some (aD (mE s)):=by unfold mQ;have hu:=lG (lM hs);rw[aJl hN (lM hs),aB,aH,aC (by rw[bW,bW];omega),aH,<-qB];rfl
def rl(r:Rd):List Int:=[1,r.1,r.2.1,r.2.2.1,r.2.2.2.1,r.2.2.2.2.1,r.2.2.2.2.2]
def bFt(r:Rd):Str:=aZa (rl r)
def okR(r:Rd):Prop:=∀x∈rl r,I64 x
theorem kU{β:Type}{l:List α}{i:Nat}{d:α}{f:α->Option β}(h:i<l.length):bS l (i:Int) f=f (l.getD i d):=by rw[gM (ν h),bk,ν h];rfl
def grd(s:Str):Rd×Int:=
 match hd s 1 7 false with
 |none=>((0,(0,(0,(0,(0,0))))),11)
 |some v=>((v.1.getD 1 0,(v.1.getD 2 0,(v.1.getD 3 0,(v.1.getD 4 0,(v.1.getD 5 0,v.1.getD 6 0))))),0)
theorem aFu(s:Str)(hN:11<=N)(hs:s.length<N)(hb:s.length<=1000000):dB N s=some (grd s):=by
 unfold dB grd;rw[show(7:Int)=((7:Nat):Int)from rfl,aJf s 1 7 false hN hs hb (by omega),aB];cases h:hd s 1 7 false with
 |none=>rfl
 |some v=>
  have hl:=(aSv h).1;unfold oS;rw[oC,show(1:Int)=((1:Nat):Int)from rfl,kU (d:=0) (by omega),show(2:Int)=((2:Nat):Int)from rfl,kU (d:=0) (by omega),show(3:Int)=((3:Nat):Int)from rfl,kU (d:=0) (by omega),show(4:Int)=((4:Nat):Int)from rfl,kU (d:=0) (by omega),show(5:Int)=((5:Nat):Int)from rfl,kU (d:=0) (by omega),show(6:Int)=((6:Nat):Int)from rfl,kU (d:=0) (by omega)];rfl
def one(s:Str):Option Int:=if(gi s).2.2=0/\(gi s).2.1=(s.length:Int)then some (gi s).1 else none
theorem aVl(hN:11<=N)(s:Str):nZ N s=some (oS (one s)):=by
 unfold nZ one;rw[aA4 hN,aB];by_cases e:(gi s).2.2=0
 ·rw[kS e,aM];by_cases hh:(gi s).2.1=(s.length:Int)
  ·rw[uZ N (kS hh),aB,oC,aF1,if_pos ⟨e,hh⟩];rfl
  ·rw[jY N (jD hh),aB,lT,nL,xH,if_neg (fun q=>hh q.2)];rfl
 ·rw[jD e,aO,jY N rfl,aB,lT,nL,xH,if_neg (fun q=>e q.1)];rfl
def pts:List Str->List Pt->Option (List Pt)
 |a::b::c::d::r,acc=>match one a,one b with
  |some st,some ng=>if ng=0\/ng=1 then pts r (acc++[(st,(ng==1,(c,d)))])else none
  |_,_=>none
 |_,acc=>some acc
def vz:Vr:=(0,(0,(0,(0,(0,(0,(0,[])))))))
def vD(l:List Int)(p:List Pt):Vr:=(l.getD 1 0,(l.getD 2 0,(l.getD 3 0,(l.getD 4 0,(l.getD 5 0,(l.getD 6 0,(l.getD 7 0,p)))))))
def gvr(s:Str):Vr×Int:=
 match hd s 2 8 true with
 |none=>(vz,11)
 | some v=>if v.2.length % 4=0 then
   match pts v.2 []with
   |none=>(vz,11)
   |some l=>(vD v.1 l,0)
  else(vz,11)
def fl(v:Vr×Int):Int×(Int×(Int×(Int×(Int×(Int×(Int×(List Pt×Int))))))):=(v.1.1,(v.1.2.1,(v.1.2.2.1,(v.1.2.2.2.1,(v.1.2.2.2.2.1,(v.1.2.2.2.2.2.1,(v.1.2.2.2.2.2.2.1,(v.1.2.2.2.2.2.2.2,v.2))))))))
def pt'(l:List Int):Option (List Pt)->Vr×Int
 |none=>(vz,11)
 |some p=>(vD l p,0)
theorem bDn(N m:Nat):cM N (m+1)=eI N (cM N m):=rfl
theorem kD(N:Nat)(e:Int):aR N e=some 11:=rfl
theorem aJ1(N:Nat)(e:Int):fM N e=some e:=rfl
theorem aJr{N:Nat}(hN:11<=N)(v:List Int)(hv:v.length=8):∀(k m:Nat) (l:List Str) (acc:List Pt),l.length=4*k->k<m->acc.length+k<=1000000->
  cM N m v l 0 0 0 0 0 0 0 0 [] acc=some (fl (pt' v (pts l acc)))
 |k,0,l,acc,_,h,_=>by omega
 |0,m+1,l,acc,hl,_,_=>by
  have:l=[]:=dn.1 (by omega);subst this;rw[bDn];unfold eI;rw[aK (by rfl),show(1:Int)=((1:Nat):Int)from rfl,kU (d:=0) (by omega),show(2:Int)=((2:Nat):Int)from rfl,kU (d:=0) (by omega),show(3:Int)=((3:Nat):Int)from rfl,kU (d:=0) (by omega),show(4:Int)=((4:Nat):Int)from rfl,kU (d:=0) (by omega),show(5:Int)=((5:Nat):Int)from rfl,kU (d:=0) (by omega),show(6:Int)=((6:Nat):Int)from rfl,kU (d:=0) (by omega),show(7:Int)=((7:Nat):Int)from rfl,kU (d:=0) (by omega)];simp only[bGc,aJ1,aB,aH];rfl
 |k+1,m+1,l,acc,hl,hm,hb=>by
  obtain⟨a,b,c,d,r,rfl⟩:∃a b c d r,l=a::b::c::d::r:=by
   match l,hl with
   |a::b::c::d::r,_=>exact⟨a,b,c,d,r,rfl⟩
   |[],h=>simp at h
   |[_],h=>simp at h;omega
   |[_,_],h=>simp at h;omega
   |[_,_,_],h=>simp at h;omega
  have hr:r.length=4*k:=by simp only[bg]at hl;omega
  have e4:de ((a::b::c::d::r).length-4) (dx 4 (a::b::c::d::r))=r:=by show r.take (r.length+4-4)=r;rw[jt,List.take_length]
  have fin:∀(st ng:Int) (x:Bool),x=(ng==1)->(gd? ((((acc.length+[(st,(x,(c,d)))].length)*48)<=140737488355328)) (gd? ((4<=(a::b::c::d::r).length)) (gd? (((a::b::c::d::r).length<=(a::b::c::d::r).length)) (gl? (([]:List Pt).length) ([]:List Pt) (gl? ((acc++[(st,(x,(c,d)))]).length) ((acc++[(st,(x,(c,d)))])) (cM N m v (de ((a::b::c::d::r).length-4) (dx 4 (a::b::c::d::r))) 0 0 0 0 0 0 0 0 [] (acc++[(st,(x,(c,d)))])))))))=cM N m v r 0 0 0 0 0 0 0 0 [] (acc++[(st,(ng==1,(c,d)))]):=fun st ng x hx=>by subst hx;rw[aC (by simp only[bg,za2];omega),aC (by simp only[bg];omega),aC (π _),aH,aH,e4]
  rw[bDn];unfold eI;rw[aJ (decide_eq_true (by simp only[bg];omega)),sN (x:=a) (by decide) rfl,sN (x:=b) (by decide) rfl,aVl hN,aB,aVl hN,pts];cases ha:one a with
  |none=>
   unfold oS;rw[lT,kD,aB,aH];rfl
  |some st=>
   cases hb2:one b with
   |none=>
    unfold oS;rw[oC,aB,lT,kD,aB,aH];rfl
   |some ng=>
    unfold oS;rw[oC,aB,oC];have ih:=aJr hN v hv k m r (acc++[(st,(ng==1,(c,d)))]) hr (by omega) (by simp only[κ,bg,za2];omega);by_cases h0:ng=0
    ·rw[kS h0,aM,uZ N rfl,aB,oC,aH,aH,aF1];dsimp only;rw[sN (x:=c) (by decide) rfl,sN (x:=d) (by decide) rfl,aH];refine(fin st ng _ rfl).trans (ih.trans ?_);simp only[h0,true_or,if_true]
    ·rw[jD h0,aO];by_cases h1:ng=1
     ·rw[uZ N (kS h1),aB,oC,aH,aH,aF1];dsimp only;rw[sN (x:=c) (by decide) rfl,sN (x:=d) (by decide) rfl,aH];refine(fin st ng _ rfl).trans (ih.trans ?_);simp only[if_pos (Or.inr h1:ng=0\/ng=1)]
     ·rw[jY N (jD h1),aB,lT,kD,aB,aH,nL,xH];simp only[h0,h1,or_self,if_false];rfl
theorem aFx(s:Str)(hN:11<=N)(hs:s.length+1<N)(hb:s.length<=100000):gH N s=some (fl (gvr s)):=by
 unfold gH gvr;rw[show(8:Int)=((8:Nat):Int)from rfl,aJf s 2 8 true hN (by omega) (by omega) (by omega),aB];cases h:hd s 2 8 true with
 |none=>rfl
 |some v=>
  obtain⟨hl,_,hp,_⟩:=aSv h;unfold oS;rw[oC];dsimp only;by_cases h4:v.2.length%4=0
  ·have:za0 (v.2.length:Int) 4=0:=by rw[show(4:Int)=((4:Nat):Int)from rfl,<-gx,h4];rfl
   rw[uZ N (kS this),aB,oC,aJr hN v.1 hl (v.2.length/4) N v.2 [] (by omega) (by omega) (by simp;omega),if_pos h4];cases pts v.2 []<;>rfl
  ·have:za0 (v.2.length:Int) 4≠0:=by rw[show(4:Int)=((4:Nat):Int)from rfl,<-gx];omega
   rw[jY N (jD this),aB,lT,kD,aB,if_neg h4];rfl
abbrev Hl:=Int×Int
abbrev Rn:=Int×(Int×(List Hl×TM))
abbrev Bk:=Int×(Int×(Int×(Int×(Int×List Rn))))
def tbl:List Int->List Hl->List Hl
 |a::b::r,acc=>tbl r (acc++[(a,b)])
 |_,acc=>acc
def rnD(l:List Int):Rn:=(l.getD 0 0,(l.getD 1 0,(tbl (l.drop 4) [],(l.getD 2 0,l.getD 3 0))))
def aSk:List Str->List Rn->Option (List Rn)
 |[],acc=>some acc
 | p :: r,acc=>if (cB p).2.2=0/\(cB p).2.1=(p.length:Int)/\4 <= (cB p).1.length/\(cB p).1.length % 2=0 then
   aSk r (acc++[rnD (cB p).1])else none
def bkz:Bk:=(0,(0,(0,(0,(0,[])))))
def bkD(l:List Int)(r:List Rn):Bk:=(l.getD 1 0,(l.getD 2 0,(l.getD 3 0,(l.getD 4 0,(l.getD 5 0,r)))))
def gbl(s:Str):Bk×Int:=
 match hd s 3 6 true with
 |none=>(bkz,11)
 |some v=>match aSk v.2 []with
  |none=>(bkz,11)
  |some l=>(bkD v.1 l,0)
theorem bGo(m:Nat):iI (m+1)=pR (iI m):=rfl
theorem aGv:∀(k z m:Nat) (a:List Int),z<128^(k+1)->z<18446744073709551616->k<m->a.length+k<1000000->iI m (z:Int) a=some (a++aD (uvarint z))
 |k,z,0,a,_,_,h,_=>by omega
 |k,z,m+1,a,hz,hz2,hm,hal=>by
  rw[bGo];unfold pR;by_cases h:128<=z
  ·obtain⟨k',rfl⟩:∃k',k=k'+1:=⟨k-1,by cases k with
    |zero=>have:128^(0+1)=128:=rfl;omega
    |succ k=>rfl⟩
   have e0:za0 (z:Int) 128=((z%128:Nat):Int):=by rw[show(128:Int)=((128:Nat):Int)from rfl,<-gx]
   have e1:θ .u8 ((θ .u8 (za0 (z:Int) 128))+128)=((z%128+128:Nat):Int):=by rw[e0,q8,show(((z%128%256:Nat):Int)+128)=((z%128%256+128:Nat):Int) by omega,q8];omega
   have e4:θ .u64 (fv (z:Int) 128)=((z/128:Nat):Int):=by rw[show(128:Int)=((128:Nat):Int)from rfl,<-Int.ofNat_tdiv,q64 (by omega) (by omega)]
   rw[e1,e4,aJ (decide_eq_true (by omega)),aH,aC (by simp only[bg,za2];omega),aH];rw[aGv k' (z/128) m (a++[((z%128+128:Nat):Int)]) (by have:128^(k'+1+1)=128^(k'+1)*128:=rfl;omega) (by omega) (by omega) (by simp only[κ,bg,za2];omega),uvarint_big h,a9];refine congrArg (fun l=>some (a++l)) ?_;show _::aD (uvarint (z/128))=(((z%128+128).toUInt8.toNat:Nat):Int)::aD (uvarint (z/128));rw[show(z%128+128).toUInt8.toNat=z%128+128 by
    show(z%128+128)%256=_;omega]
  ·rw[aK (decide_eq_false (by omega)),aH,aC (by simp only[bg,za2];omega),aH,q8,uvarint_small (by omega)];refine congrArg (fun l=>some (a++l)) ?_;show[((z%256:Nat):Int)]=[((z.toUInt8.toNat:Nat):Int)];rw[show z.toUInt8.toNat=z%256 from rfl]
theorem bCw(hN:20<=N)(hn:I64 n):jI N n=some (aD (uvI n)):=by
 have hz:=aMw hn;obtain⟨h1,h2⟩:=hn;have w:∀x:Int,θ .u64 x=x%18446744073709551616:=fun x=>IntKind.wrap_u64 x;have fin:∀x:Int,x=((zigzag n:Nat):Int)->iI N x []=some (aD (uvI n)):=fun x hx=>by subst hx;rw[aGv 9 (zigzag n) N [] (by have:128^(9+1)=1180591620717411303424:=rfl;omega) hz (by omega) (by simp),za3];rfl
 unfold jI;by_cases h:n<0
 ·rw[aJ (decide_eq_true h),bF (by omega) (by omega),aB];refine fin _ ?_;rw[w,w,w];unfold zigzag;rw[if_neg (by omega)];omega
 ·rw[aK (decide_eq_false h),aB];refine fin _ ?_;rw[w,w];unfold zigzag;rw[if_pos (by omega)];omega
theorem aZ3(N m:Nat):jS N (m+1)=jP N (jS N m):=rfl
theorem aC5{N:Nat}(hN:20<=N)(l:List Int)(h:∀x∈l,I64 x)(hl:l.length<=100000):∀(k i m:Nat) (acc:List Int),i+k=l.length->k<m->acc.length<=10+10*i->jS N m l (i:Int) acc=some (acc++aD ((l.drop i).flatMap uvI))
 |k,i,0,acc,_,h,_=>by omega
 |0,i,m+1,acc,hi,_,_=>by
  rw[aZ3];unfold jP;rw[aK (decide_eq_false (by omega)),aH,dg (by omega)];exact congrArg some (bj acc).symm
 |k+1,i,m+1,acc,hi,hm,ha=>by
  have hlt:i<l.length:=by omega
  have hx:=h _ (ee hlt);have hu:=lG hx;rw[aZ3];unfold jP;rw[aJ (decide_eq_true (by omega)),gM (ν hlt),bCw hN hx,aB,aH,aH,aC (by rw[bW];omega),bF (by omega) (by omega),aH,show((i:Int)+1)=((i+1:Nat):Int) by omega,aC5 hN l h hl k (i+1) m _ (by omega) (by omega) (by rw[κ,bW];omega),kN hlt,List.flatMap_cons,qB,a9]
theorem aUl(hN:20<=N)(l:List Int)(h:∀x∈l,I64 x)(hl:l.length<N)(hb:l.length<=100000):iU N l=some (aZa l):=by unfold iU rA;rw[bCw hN (lM (by omega)),aB,aH];have hu:=lG (lM (show l.length<=1000000 by omega));have:=aC5 hN l h hb l.length 0 N (aD (uvI (l.length:Int))) (by omega) hl (by rw[bW];omega);rw[show(((0:Nat):Int))=0 from rfl]at this;rw[this,aB,aH,da,<-qB,eW];rfl
theorem bA0(hN:20<=N)(s:Str)(hs:s.length<=1000000):kZ N s=some (aD (mE s)):=by unfold kZ;have hu:=lG (lM hs);rw[bCw hN (lM hs),aB,aH,aC (by rw[bW,bW];omega),aH,<-qB];rfl
theorem aTz(hN:20<=N){r:Rd}(h:okR r):iV N r=some (bFt r):=by unfold iV;rw[show[1,r.1,r.2.1,r.2.2.1,r.2.2.2.1,r.2.2.2.2.1,r.2.2.2.2.2]=rl r from rfl,aUl hN _ h (by show 7<N;omega) (by show 7<=_;omega),aB];rfl
theorem aPk{l:List Int}{k:Nat}{j:Int}{f:Int->Option α}(hj:j=(k:Int))(h:k<l.length):gd? (j<((l.length:Nat):Int)) (gn? l k f)=f (l.getD k 0):=by rw[aC (by omega),aYe (ν h),bk,ν h];rfl
def flk(x:Bk×Int):Int×(Int×(Int×(Int×(Int×(List Rn×Int))))):=(x.1.1,(x.1.2.1,(x.1.2.2.1,(x.1.2.2.2.1,(x.1.2.2.2.2.1,(x.1.2.2.2.2.2,x.2))))))
def bt(l:List Int):Option (List Rn)->Bk×Int
 |none=>(bkz,11)
 |some r=>(bkD l r,0)
theorem aZd(r)(m:Nat):gG r (m+1)=fT r (gG r m):=rfl
theorem aZb(N m:Nat):fU N (m+1)=fS N (fU N m):=rfl
theorem gk1(r)(v:List Int)(ls:List Str)(n:Int)(i:Nat)(z1 z2 z3 z4 z5 z6 x y z w:Int)(acc e:List Rn)(hacc:acc.length<=1000000)(hi:i<=1000000):∀(k m:Nat) (l:List Int) (t:List Hl),l.length=2*k->k<m->t.length+k<=1000000->
  gG r m v l ls n (i:Int) z1 z2 z3 z4 z5 z6 acc x y z w e t=r v ls n ((i+1:Nat):Int) z1 z2 z3 z4 z5 z6 (acc++[(x,(y,(tbl l t,(z,w))))]) e
 |k,0,l,t,_,h,_=>by omega
 |0,m+1,l,t,hl,_,_=>by
  have:l=[]:=dn.1 (by omega);subst this;rw[aZd];unfold fT;rw[aK (by rfl),aH,aH,aC (by simp only[bg,za2];omega),bF (by omega) (by omega),aH,aH,show((i:Int)+1)=((i+1:Nat):Int) by omega];rfl
 |k+1,m+1,l,t,hl,hm,ht=>by
  obtain⟨a,b,q,rfl⟩:∃a b q,l=a::b::q:=by
   match l,hl with
   |a::b::q,_=>exact⟨a,b,q,rfl⟩
   |[],h=>simp at h
   |[_],h=>simp at h;omega
  have hq:q.length=2*k:=by simp only[bg]at hl;omega
  rw[aZd];unfold fT;rw[aJ (decide_eq_true (by simp only[bg];omega)),sN (x:=a) (by decide) rfl,sN (x:=b) (by decide) rfl,aH,aC (by simp only[bg,za2];omega),aC (by simp only[bg];omega),aC (π _),aH,aH,aH];have e2:de ((a::b::q).length-2) (dx 2 (a::b::q))=q:=by show q.take (q.length+2-2)=q;rw[jt,List.take_length]
  rw[e2,gk1 r v ls n i z1 z2 z3 z4 z5 z6 x y z w acc e hacc hi k m q _ hq (by omega) (by simp only[κ,bg,za2];omega),tbl]
theorem gk0{N:Nat}(hN:20<=N)(v:List Int)(hv:v.length=6)(L:List Str)(hL:L.length<=1000000)(hp:∀x∈L,x.length<N/\x.length<=1000000):∀(k i m:Nat) (acc:List Rn),i+k=L.length->k<m->acc.length=i->
  fU N m v L ((L.length:Nat):Int) (i:Int) 0 0 0 0 0 0 acc []=some (flk (bt v (aSk (L.drop i) acc)))
 |k,i,0,acc,_,h,_=>by omega
 |0,i,m+1,acc,hi,_,_=>by
  rw[aZb];unfold fS;rw[aK (decide_eq_false (by omega)),dg (by omega),show(1:Int)=((1:Nat):Int)from rfl,kU (d:=0) (by omega),show(2:Int)=((2:Nat):Int)from rfl,kU (d:=0) (by omega),show(3:Int)=((3:Nat):Int)from rfl,kU (d:=0) (by omega),show(4:Int)=((4:Nat):Int)from rfl,kU (d:=0) (by omega),show(5:Int)=((5:Nat):Int)from rfl,kU (d:=0) (by omega),aJ1,aB,aH];rfl
 |k+1,i,m+1,acc,hi,hm,ha=>by
  have hlt:i<L.length:=by omega
  obtain⟨p1,p2⟩:=hp _ (ee hlt);rw[aZb];unfold fS;rw[aJ (decide_eq_true (by omega)),gM (ν hlt),aE5 _ (by omega) p1 p2,aB,kN hlt,aSk];unfold swp;dsimp only;generalize hg:L[i]=p at*;by_cases e:(cB p).2.2=0
  ·rw[kS e,aM];by_cases hu:(cB p).2.1=(p.length:Int)
   ·rw[kS hu,aM];by_cases h4:4<=(cB p).1.length
    ·rw[aJ (decide_eq_true (by omega))];have e4:za0 ((cB p).1.length:Int) 2=(((cB p).1.length%2:Nat):Int):=by rw[show(2:Int)=((2:Nat):Int)from rfl,<-gx]
     by_cases h2:(cB p).1.length%2=0
     ·rw[if_pos ⟨e,hu,h4,h2⟩,uZ N (kS (by rw[e4];omega)),aB,oC,aH,aH,aH,aF1];dsimp only;have hl:(cB p).1.length<=p.length:=by
       rcases aDk p with⟨_,u,_,_,h3,_⟩|g
       ·exact h3
       ·exact absurd e g
      rw[aPk (k:=0) (j:=0) rfl (by omega),aPk (k:=1) (j:=1) rfl (by omega),aPk (k:=2) (j:=2) rfl (by omega),aPk (k:=3) (j:=3) rfl (by omega),aC h4,aC (π _),aH,aC (by omega),aH];have et:de ((cB p).1.length-4) (dx 4 (cB p).1)=(cB p).1.drop 4:=bn (by rw[υ];exact π _);rw[et,gk1 _ v L _ i 0 0 0 0 0 0 _ _ _ _ acc [] (by omega) (by omega) (((cB p).1.length-4)/2) N _ [] (by rw[υ];omega) (by omega) (by rw[za2];omega)];exact gk0 hN v hv L hL hp k (i+1) m _ (by omega) (by omega) (by simp only[κ,bg,za2];omega)
     ·rw[if_neg (fun q=>h2 q.2.2.2),jY N (jD (by rw[e4];omega)),aB,lT,kD,aB,aH,nL,xH];rfl
    ·rw[aK (decide_eq_false (by omega)),if_neg (fun q=>h4 q.2.2.1),jY N rfl,aB,lT,kD,aB,aH,nL,xH];rfl
   ·rw[jD hu,aO,if_neg (fun q=>hu q.2.1),jY N rfl,aB,lT,kD,aB,aH,nL,xH];rfl
  ·rw[jD e,aO,if_neg (fun q=>e q.1),jY N rfl,aB,lT,kD,aB,aH,nL,xH];rfl
theorem aLv(s:Str)(hN:20<=N)(hs:s.length<N)(hb:s.length<=1000000):fH N s=some (flk (gbl s)):=by
 unfold fH gbl;rw[show(6:Int)=((6:Nat):Int)from rfl,aJf s 3 6 true (by omega) hs hb (by omega),aB];cases hh:hd s 3 6 true with
 |none=>
  unfold oS;rw[lT,kD,aB];rfl
 |some v=>
  obtain⟨g1,g2,g3,g4⟩:=aSv hh;unfold oS;rw[oC];have:=gk0 hN v.1 g1 v.2 (by omega) (fun x hx=>by have:=g4 x hx;omega) v.2.length 0 N [] (by omega) (by omega) rfl;refine this.trans (congrArg (fun x=>some (flk x)) ?_);rw[da];dsimp only;cases aSk v.2 []<;>rfl
def lp(y:Int):Bool:=decide (za0 y 400=0\/(za0 y 4=0/\za0 y 100≠0))
def dy(b:Bool):Int:=if b then 366 else 365
theorem aUe(N:Nat)(y:Int):fE N y=some (lp y):=by
 unfold fE lp;by_cases h4:za0 y 4=0
 ·rw[kS h4,aM];by_cases h1:za0 y 100=0
  ·rw[vW h1,aO,aB];refine congrArg some ?_;rw[ft,beq_iff_eq,decide_eq_true_eq];omega
  ·rw[vX h1,aM,aB,decide_eq_true (.inr ⟨h4,h1⟩)]
 ·rw[jD h4,aO,aB];refine congrArg some ?_;rw[ft,beq_iff_eq,decide_eq_true_eq];omega
theorem bC1(N:Nat)(y:Int):fL N y=some (dy (lp y)):=by unfold fL;rw[aUe,aB];cases lp y<;>rfl
def ml(b:Bool):Nat->Int
 |2=>if b then 29 else 28
 |4=>30
 |6=>30
 |9=>30
 |11=>30
 |_=>31
theorem bDz(N:Nat)(y:Int)(m:Nat)(h1:1<=m)(h2:m<=12):dS N y (m:Int)=some (ml (lp y) m):=by unfold dS;rw[aUe];rcases(by omega:m=1\/m=2\/m=3\/m=4\/m=5\/m=6\/m=7\/m=8\/m=9\/m=10\/m=11\/m=12)with h|h|h|h|h|h|h|h|h|h|h|h<;>subst h<;>cases lp y<;>rfl
def R(b:Bool):Nat->Int
 |0=>0
 |k+1=>ml b (12-k)+R b k
theorem bF8(b:Bool):R b 12=dy b:=by cases b<;>rfl
theorem bAu(b:Bool)(m:Nat):28<=ml b m/\ml b m<=31:=by unfold ml;split<;>(try split)<;>omega
theorem bGa(N m:Nat):fX N (m+1)=kH N (fX N m):=rfl
theorem bGy(N m:Nat):fY N (m+1)=kL N (fY N m):=rfl
theorem bAc(N:Nat)(y:Int):∀(k m f:Nat) (d:Int),m+k=13->1<=m->0<=d->d<1000->d<R (lp y) k->k<f->∃r,fX N f d y (m:Int)=some (y,r)
 |k,m,0,d,_,_,_,_,_,h=>by omega
 |0,m,f+1,d,_,_,h0,_,h,_=>by have:d<0:=h;omega
 |k+1,m,f+1,d,hm,h1,h0,hd,h,hf=>by
  have hp:=bAu (lp y) m;rw[bGa];unfold kH;rw[bDz N y m h1 (by omega),aB];by_cases hh:d≥ml (lp y) m
  ·rw[aJ (decide_eq_true hh),aB,bF (by omega) (by omega),bF (by omega) (by omega),show((m:Int)+1)=((m+1:Nat):Int) by omega];have e:R (lp y) (k+1)=ml (lp y) m+R (lp y) k:=by show ml (lp y) (12-k)+_=_;rw[show 12-k=m by omega]
   exact bAc N y k (m+1) f _ (by omega) (by omega) (by omega) (by omega) (by omega) (by omega)
  ·rw[aK (decide_eq_false hh),bF (by omega) (by omega)];exact⟨_,rfl⟩
def yr:Nat->Int->Int->Int
 |0,y,_=>y
 |n+1,y,d=>if d≥dy (lp y)then yr n (y+1) (d-dy (lp y))else y
theorem bGl(b:Bool):365<=dy b/\dy b<=366:=by cases b<;>decide
theorem bFr{N:Nat}(hN:20<=N):∀(n f:Nat) (y d:Int),0<=y->y+n<=1000000->0<=d->d<365*n->n<f->n<=10000->∃r,fY N f d y 1=some (yr n y d,r)
 |n,0,y,d,_,_,_,_,h,_=>by omega
 |0,f+1,y,d,_,_,h0,h,_,_=>by omega
 |n+1,f+1,y,d,hy,hyn,h0,h,hf,hn=>by
  obtain⟨b1,b2⟩:=bGl (lp y);rw[bGy,yr];unfold kL;rw[bC1,aB];by_cases hh:d≥dy (lp y)
  ·rw[aJ (decide_eq_true hh),aB,bF (by omega) (by omega),bF (by omega) (by omega),if_pos hh];exact bFr hN n f _ _ (by omega) (by omega) (by omega) (by omega) (by omega) (by omega)
  ·rw[aK (decide_eq_false hh),if_neg hh];exact bAc N y 12 1 N d rfl (by omega) h0 (by omega) (by rw[bF8];omega) (by omega)
def cy(d:Int):Int:=if d<0\/d>14609 then 0 else yr 41 2000 d
theorem bBm(hN:100<=N)(d:Int):∃r,dD N d=some (cy d,r):=by
 unfold dD cy;by_cases h:d<0
 ·rw[aJ (decide_eq_true h),aB,if_pos (.inl h)];exact⟨_,rfl⟩
 ·rw[aK (decide_eq_false h),aB];by_cases h':d>14609
  ·rw[aJ (decide_eq_true h'),if_pos (.inr h')];exact⟨_,rfl⟩
  ·rw[aK (decide_eq_false h'),if_neg (by omega)];exact bFr (by omega) 41 N 2000 d (by omega) (by omega) (by omega) (by omega) (by omega) (by omega)
def pl(g t:Int):Int×TM:=if g<0\/g≥40\/t<0\/t≥1402560 then(0,(0,3))else(g,(cy (fv t 96),0))
def wh(s:Str):Int×TM:=
 if(grd s).2=0 then pl (grd s).1.1 (grd s).1.2.2.1
 else if(gvr s).2=0 then pl (gvr s).1.2.1 (gvr s).1.2.2.2.2.1
 else if(gbl s).2=0 then pl (gbl s).1.1 (gbl s).1.2.2.1
 else(0,(0,11))
theorem aTh(hN:100<=N)(g t:Int){γ:Type}(K:Int×TM->Option γ):
  (bd? (if? (decide (g<0)) (some (g,t,true)) (if? (decide (g≥40)) (some (g,t,true)) (if? (decide (t<0)) (some (g,t,true)) (some (g,t,decide (t≥1402560)))))) fun w7=>if? (w7.2.2) (K (0,(0,3))) (ck .i64 (fv w7.2.1 96) (bd? (dD N (fv w7.2.1 96)) fun v8=>K (w7.1,(v8.1,0)))))=K (pl g t):=by
 unfold pl;by_cases h1:g<0
 ·rw[aJ (decide_eq_true h1),aB,if_pos (.inl h1)];rfl
 ·rw[aK (decide_eq_false h1)];by_cases h2:g≥40
  ·rw[aJ (decide_eq_true h2),aB,if_pos (.inr (.inl h2))];rfl
  ·rw[aK (decide_eq_false h2)];by_cases h3:t<0
   ·rw[aJ (decide_eq_true h3),aB,if_pos (.inr (.inr (.inl h3)))];rfl
   ·rw[aK (decide_eq_false h3),aB];dsimp only;by_cases h4:t≥1402560
    ·rw[aJ (decide_eq_true h4),if_pos (.inr (.inr (.inr h4)))]
    ·have hd:0<=fv t 96/\fv t 96<=t:=by obtain⟨n,rfl⟩:=Int.eq_ofNat_of_zero_le (show 0<=t by omega);rw[show(96:Int)=((96:Nat):Int)from rfl,<-Int.ofNat_tdiv];omega
     obtain⟨r,hr⟩:=bBm hN (fv t 96);rw[aK (decide_eq_false h4),if_neg (by omega),bF (by omega) (by omega),hr,aB]
theorem aWk(N m:Nat):dM N (m+1)=gP N (dM N m):=rfl
theorem k_1(s:Str)(hN:5000<=N)(hb:s.length<=1000):jT N s=some ((grd s).1.1,((grd s).1.2.2.1,(grd s).2)):=by unfold jT;rw[aFu s (by omega) (by omega) (by omega),aB]
theorem k_2(s:Str)(hN:5000<=N)(hb:s.length<=1000):kC N s=some ((gvr s).1.2.1,((gvr s).1.2.2.2.2.1,(gvr s).2)):=by unfold kC;rw[aFx s (by omega) (by omega) (by omega),aB];rfl
theorem k_3(s:Str)(hN:5000<=N)(hb:s.length<=1000):kE N s=some ((gbl s).1.1,((gbl s).1.2.2.1,(gbl s).2)):=by unfold kE;rw[aLv s (by omega) (by omega) (by omega),aB];rfl
theorem aWe(s:Str)(hN:5000<=N)(hb:s.length<=1000):gS N s=some (wh s):=by
 obtain⟨m,rfl⟩:∃m,N=m+4:=⟨N-4,by omega⟩;generalize hM:m+4=M at*;unfold gS qW;rw[aB];have e3:dM M (m+1) s 3=some (0,(0,11)):=by rw[aWk];rfl
 have e2:dM M (m+2) s 2=some (if(gbl s).2=0 then pl (gbl s).1.1 (gbl s).1.2.2.1 else(0,(0,11))):=by
  rw[aWk];unfold gP;rw[aJ (by rfl),aK (by rfl),aK (by rfl),aJ (by rfl),k_3 s hN hb,aB];dsimp only;by_cases h:(gbl s).2=0
  ·rw[vW h,aO,if_pos h,aTh (by omega) _ _ (fun x=>jN (some x)),nL,xH]
  ·rw[vX h,aM,if_neg h,aF1];exact(bF (n:=2+1) (by decide) (by decide)).trans e3
 have e1:dM M (m+3) s 1=some (if(gvr s).2=0 then pl (gvr s).1.2.1 (gvr s).1.2.2.2.2.1 else if(gbl s).2=0 then pl (gbl s).1.1 (gbl s).1.2.2.1 else(0,(0,11))):=by
  rw[aWk];unfold gP;rw[aJ (by rfl),aK (by rfl),aJ (by rfl),k_2 s hN hb,aB];dsimp only;by_cases h:(gvr s).2=0
  ·rw[vW h,aO,if_pos h,aTh (by omega) _ _ (fun x=>jN (some x)),nL,xH]
  ·rw[vX h,aM,if_neg h,aF1];exact(bF (n:=1+1) (by decide) (by decide)).trans e2
 have e0:dM M (m+4) s 0=some (wh s):=by
  rw[aWk];unfold gP;rw[aJ (by rfl),aJ (by rfl),k_1 s hN hb,aB];unfold wh;dsimp only;by_cases h:(grd s).2=0
  ·rw[vW h,aO,if_pos h,aTh (by omega) _ _ (fun x=>jN (some x)),nL,xH]
  ·rw[vX h,aM,if_neg h,aF1];exact(bF (n:=0+1) (by decide) (by decide)).trans e1
 rw[hM]at e0;exact e0
end Go.Proofs.Tryd
set_option maxRecDepth 8000
namespace Go.Proofs.Tryd
open Go.Eng Go.RowKit
theorem aV1:jO 17179869200=some true:=by kernel_rfl
end Go.Proofs.Tryd
set_option maxRecDepth 8000
set_option synthInstance.maxSize 100000
set_option synthInstance.maxHeartbeats 400000
namespace Go.Proofs.Tryd
open Go.Eng Go.RowKit Go.Lib
variable{N:Nat}
abbrev Fo:=Int×(Int×List Str)
def hr(s:Str)(g y:Int):Bool:=decide ((wh s).2.2=0/\(wh s).1=g/\(wh s).2.1=y)
theorem bFe(a b c g y:Int):(bd? (if? (c==0) (if? (a==g) (some (b==y)) (some false)) (some false)) fun w5=>some w5)=some (decide (c=0/\a=g/\b=y)):=by
 by_cases h1:c=0
 ·rw[kS h1,aM];by_cases h2:a=g
  ·rw[kS h2,aM,aB];refine congrArg some ?_;rw[ft,beq_iff_eq,decide_eq_true_eq];exact⟨fun h=>⟨h1,h2,h⟩,fun h=>h.2.2⟩
  ·rw[jD h2,aO,aB,decide_eq_false (fun q=>h2 q.2.1)]
 ·rw[jD h1,aO,aB,decide_eq_false (fun q=>h1 q.1)]
theorem zB(s:Str)(g y:Int)(hN:5000<=N)(hb:s.length<=1000):eV N s g y=some (hr s g y):=by unfold eV hr;rw[aWe s hN hb,aB,bFe]
def bad(g y:Int):Option Str->Str->Bool
 |none,x=>!hr x g y
 |some q,x=>!hr x g y||(Op.bytesLess x q||x==q)
def ckl(g y:Int):Option Str->List Str->Int
 |_,[]=>0
 |p,x::r=>if bad g y p x then 1 else ckl g y (some x) r
def pv(l:List Str):Nat->Option Str
 |0=>none
 |i+1=>l[i]?
def chk(f:Fo):Int:=if f.1<0\/f.1≥40\/f.2.1<2000\/f.2.1≥2040 then 3 else if f.2.2.length>1000 then 2 else ckl f.1 f.2.1 none f.2.2
theorem bEe(N m:Nat):eQ N (m+1)=kK N (eQ N m):=rfl
theorem aOe{N:Nat}(hN:5000<=N)(l:List Str)(g y:Int)(hp:∀x∈l,x.length<=1000)(hl:l.length<=1000):∀(k i m:Nat),i+k=l.length->k<m->eQ N m l ((l.length:Nat):Int) (i:Int) g y l=some (ckl g y (pv l i) (l.drop i))
 |k,i,0,_,h=>by omega
 |0,i,m+1,hi,_=>by
  rw[bEe];unfold kK;rw[aK (decide_eq_false (by omega)),dg (by omega)];rfl
 |k+1,i,m+1,hi,hm=>by
  have hlt:i<l.length:=by omega
  have hb:=hp _ (ee hlt);have ih:=aOe hN l g y hp hl k (i+1) m (by omega) (by omega);have ev:pv l (i+1)=some l[i]:=ν hlt;rw[ev]at ih;rw[bEe];unfold kK;rw[aJ (decide_eq_true (by omega)),gM (ν hlt),kN hlt,ckl];have fin:∀b:Bool,(bd? (some (l,((l.length:Nat):Int),(i:Int),b,g,y,l)) fun w14=>if? (w14.2.2.2.1) (some 1) (ck .i64 ((w14.2.2.1+1)) (eQ N m w14.1 w14.2.1 (w14.2.2.1+1) w14.2.2.2.2.1 w14.2.2.2.2.2.1 w14.2.2.2.2.2.2)))=some (if b then 1 else ckl g y (some l[i]) (l.drop (i+1))):=fun b=>by
   rw[aB];dsimp only;cases b with
   |true=>rw[aM];rfl
   |false=>
    rw[aO,bF (by omega) (by omega),show((i:Int)+1)=((i+1:Nat):Int) by omega,ih];rfl
  cases i with
  |zero=>
   rw[aK (decide_eq_false (by omega)),zB _ g y hN hb,aB];exact fin _
  |succ j=>
   have hj:j<l.length:=by omega
   have ev:pv l (j+1)=some l[j]:=ν hj;rw[aJ (decide_eq_true (by omega)),bF (by omega) (by omega),show(((j+1:Nat):Int)-1)=(j:Int) by omega,gM (ν hj),ev,bad];cases hx:(Op.bytesLess l[j+1] l[j]||l[j+1]==l[j])with
   |true=>rw[aM,Bool.or_true];exact fin true
   |false=>rw[aO,zB _ g y hN hb,aB,Bool.or_false];exact fin _
theorem aDc(hN:5000<=N)(f:Fo)(hp:∀x∈f.2.2,x.length<=1000):bR N f=some (chk f):=by
 unfold bR chk;have fin:¬(f.1<0\/f.1≥40\/f.2.1<2000\/f.2.1≥2040)->(if? (decide (((f.2.2.length:Nat):Int)>1000)) (some (2:Int)) (eQ N N f.2.2 ((f.2.2.length:Nat):Int) 0 f.1 f.2.1 f.2.2))=some (if f.2.2.length>1000 then 2 else ckl f.1 f.2.1 none f.2.2):=fun _=>by
  by_cases h:f.2.2.length>1000
  ·rw[aJ (decide_eq_true (by omega)),if_pos h]
  ·rw[aK (decide_eq_false (by omega)),if_neg h];have:=aOe hN f.2.2 f.1 f.2.1 hp (by omega) f.2.2.length 0 N (by omega) (by omega);rw[da]at this;exact this
 by_cases h1:f.1<0
 ·rw[aJ (decide_eq_true h1),aB,if_pos (.inl h1)];rfl
 ·rw[aK (decide_eq_false h1)];by_cases h2:f.1≥40
  ·rw[aJ (decide_eq_true h2),aB,if_pos (.inr (.inl h2))];rfl
  ·rw[aK (decide_eq_false h2)];by_cases h3:f.2.1<2000
   ·rw[aJ (decide_eq_true h3),aB,if_pos (.inr (.inr (.inl h3)))];rfl
   ·rw[aK (decide_eq_false h3),aB];dsimp only;by_cases h4:f.2.1≥2040
    ·rw[aJ (decide_eq_true h4),if_pos (.inr (.inr (.inr h4)))]
    ·rw[aK (decide_eq_false h4),if_neg (by omega)];exact fin (by omega)
end Go.Proofs.Tryd

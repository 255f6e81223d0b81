/- Texts of this claim. -/
import Derived.Test.YtjcdfjldcinopaaGreatDoorLA
import Derived.Test.YtjcdfjldcinopaaGreatDoorYB
import Derived.Lib.Varint
import Derived.Lib.BitFns
import Derived.Laws.Bits64
open BitVec renaming ofInt_natCast->jl,toNat_ofNat->j6
open Bool renaming eq_iff_iff->dv,not_true->fv
open Go.IntKind renaming wrap->ι
open Int renaming ofNat_tdiv->j7,ofNat_tmod->gb,tdiv->dk,tmod->bx,toNat_natCast->χ
open List renaming append_assoc->π,append_nil->υ,cons_append->gn,drop->dj,drop_drop->di,drop_eq_getElem_cons->fb,drop_of_length_le->cm,drop_zero->de,eq_nil_of_length_eq_zero->fo,flatMap_cons->b6,flatMap_nil->jh,getD_eq_getElem?_getD->bc,getElem?_cons_zero->ep,getElem?_drop->dm,getElem?_eq_getElem->μ,getElem_mem->dz,length_append->κ,length_cons->τ,length_drop->aw,length_eq_zero_iff->ft,length_map->θ,length_nil->ba,length_take->cp,map_append->bo,map_cons->ct,mem_append->dh,mem_cons->br,mem_map->cw,mem_singleton->bk,nil_append->cn,not_mem_nil->dc,take->c9,take_of_length_le->bf
open Nat renaming add_assoc->ei,add_mul->cf,add_sub_cancel->jv,le_refl->ω,le_trans->cj,mul_le_mul_left->js,mul_le_mul_right->cq,mul_one->cu,pow_le_pow_right->ij,zero_add->az
set_option linter.all false
namespace Go.Proofs.Tryz
open Go.Eng
theorem aI{α:Type}{c:Bool}{a b:Option α}(h:c=true):if? c a b=a:=by rw[h];rfl
theorem aK{α:Type}{c:Bool}{a b:Option α}(h:c=false):if? c a b=b:=by rw[h];rfl
abbrev Vr:=TJ
end Go.Proofs.Tryz
set_option maxRecDepth 8000
set_option synthInstance.maxSize 100000
set_option synthInstance.maxHeartbeats 400000
namespace Go.Proofs.Tryz
open Go.Eng Go.RowKit Go.Lib
variable{N i k:Nat}{s:Str}{l:List Int}{α:Type}{n a x:Int}{v:Vr}
theorem q8(n:Nat):ι .u8 (n:Int)=((n%256:Nat):Int):=by rw[IntKind.wrap_u8];omega
theorem q64(h:0<=x)(h':x<18446744073709551616):ι .u64 x=x:=by rw[IntKind.wrap_u64];omega
def I64(n:Int):Prop:=-9223372036854775808<=n/\n<=9223372036854775807
theorem aAc(s:Str)(i:Nat):(aG s)[i]?=(s[i]?).map fun c=>(c.toNat:Int):=by unfold aG;rw[List.getElem?_map]
theorem bS(s:Str):bF (aG s)=s:=by
 unfold bF aG;rw[List.map_map]
 conv=>rhs;rw[<-List.map_id s]
 refine List.map_congr_left fun c _=>?_;show UInt8.ofNat ((c.toNat:Int)).toNat=c;rw[χ];exact UInt8.ofNat_toNat
theorem fE(s t:Str):aG (s++t)=aG s++aG t:=bo
theorem aFa{t:Str}{n:Nat}:aG (t.take n)=(aG t).take n:=by unfold aG;rw[List.map_take]
theorem wE{t:Str}{n:Nat}:aG (t.drop n)=(aG t).drop n:=by unfold aG;rw[List.map_drop]
theorem bHa(m:Nat):mF (m+1)=qF (mF m):=rfl
theorem aMn:∀(k z m:Nat) (a:List Int),z<128^(k+1)->z<18446744073709551616->k<m->a.length+k<1000000->
  mF m (z:Int) a=some (a++aG (uvarint z))
 |k,z,0,a,_,_,h,_=>by omega
 |k,z,m+1,a,hz,hz2,hm,hal=>by
  rw[bHa];unfold qF;rw[q8];by_cases h:128<=z
  ·obtain⟨k',rfl⟩:∃k',k=k'+1:=⟨k-1,by cases k with
    |zero=>have:128^(0+1)=128:=rfl;omega
    |succ k=>rfl⟩
   have e1:bits .or .u8 ((z%256:Nat):Int) 128=((z%128+128:Nat):Int):=by rw[Go.Lib.u8_or128_any _ (by omega) (by omega)];omega
   have e4:(z:Int)/2^7=((z/128:Nat):Int):=rfl;rw[e1,e4,aI (decide_eq_true (by omega)),aC,aL (by simp only[τ,ba];omega),aC];rw[aMn k' (z/128) m (a++[((z%128+128:Nat):Int)]) (by have:128^(k'+1+1)=128^(k'+1)*128:=rfl;omega) (by omega) (by omega) (by simp only[κ,τ,ba];omega),uvarint_big h,π];refine congrArg (fun l=>some (a++l)) ?_;show _::aG (uvarint (z/128))=(((z%128+128).toUInt8.toNat:Nat):Int)::aG (uvarint (z/128));rw[show(z%128+128).toUInt8.toNat=z%128+128 by
    show(z%128+128)%256=_;omega]
  ·rw[aK (decide_eq_false (by omega)),aC,aL (by simp only[τ,ba];omega),aC,uvarint_small (by omega)];refine congrArg (fun l=>some (a++l)) ?_;show[((z%256:Nat):Int)]=[((z.toUInt8.toNat:Nat):Int)];rw[show z.toUInt8.toNat=z%256 from rfl]
theorem aXv(N:Nat)(n:Int)(hN:20<=N)(hn:I64 n):cL N n=some (aG (uvarint (zigzag n))):=by
 obtain⟨h1,h2⟩:=hn;have e1:(2:Int)^63=9223372036854775808:=rfl;have e2:(2:Int)^1=2:=rfl;have hz:zigzag n<18446744073709551616:=by unfold zigzag;split<;>omega
 have key:bits .xor .u64 (ι .u64 ((ι .u64 n)*2)) (ι .u64 (n/9223372036854775808))=((zigzag n:Nat):Int):=by
  by_cases h:0<=n
  ·have hz':zigzag n=(2*n).toNat:=by unfold zigzag;rw[if_pos h]
   rw[show n/9223372036854775808=((0:Nat):Int) by omega,q64 (x:=n) h (by omega),q64 (x:=n*2) (by omega) (by omega),q64 (x:=((0:Nat):Int)) (by omega) (by omega),show n*2=(((2*n).toNat:Nat):Int) by omega,Go.bits_xor_u64_nat _ _ (by omega) (by omega),Nat.xor_zero,hz']
  ·have hz':zigzag n=(-2*n-1).toNat:=by unfold zigzag;rw[if_neg h]
   have w:∀x:Int,ι .u64 x=x%18446744073709551616:=fun x=>IntKind.wrap_u64 x;obtain⟨y,hy,hy2⟩:∃y:Nat,(((n%18446744073709551616)*2)%18446744073709551616:Int)=(y:Int)/\(y:Int)=18446744073709551616+2*n:=⟨(18446744073709551616+2*n).toNat,by omega,by omega⟩;rw[w,w,w,hy,show n/9223372036854775808%18446744073709551616=((18446744073709551615:Nat):Int) by omega,Go.bits_xor_u64_nat _ _ (by omega) (by omega)];have hx:y^^^18446744073709551615=18446744073709551615-y:=by
    rw[Nat.xor_comm];apply Nat.eq_of_testBit_eq;intro i;rw[Nat.testBit_xor,show 18446744073709551615-y=2^64-(y+1) by omega,Nat.testBit_two_pow_sub_succ (by omega),show(18446744073709551615:Nat)=2^64-(0+1)from rfl,Nat.testBit_two_pow_sub_succ (by omega)];by_cases hi:i<64
    ·simp[hi]
    ·have:y.testBit i=false:=Nat.testBit_lt_two_pow (Nat.lt_of_lt_of_le (show y<2^64 by omega) (ij (by decide) (by omega)));simp[hi,this]
   rw[hx,hz'];omega
 unfold cL;rw[e1,e2,key,aMn 9 (zigzag n) N [] (by have:128^(9+1)=1180591620717411303424:=rfl;omega) hz (by omega) (by simp),cn]
def unz(z:Nat):Int:=if z%2=0 then((z/2:Nat):Int)else-((z/2:Nat):Int)-1
def giN:Nat->Nat->Str->Int×Int×Int
 |_,_,[]=>(0,0,10)
 |k,z,c::r=>if(k=9/\1<c.toNat)\/(0<k/\c.toNat=0)then(0,0,11)else if c.toNat<128 then(unz (z+c.toNat%128*128^k),((k+1:Nat):Int),0)else giN (k+1) (z+c.toNat%128*128^k) r
theorem aHe(n:Int)(h₀:0<=n)(h₁:n<2^64):IntKind.u64.wrap n=n:=by rw[IntKind.wrap_u64];omega
theorem aZh(x b:Nat)(hx:x<9223372036854775808)(hb:b<2):bits .xor .i64 (x:Int) (-(b:Int))=if b=0 then(x:Int)else-(x:Int)-1:=by
 obtain rfl|rfl:b=0\/b=1:=by omega
 ·simp only[bits,if_pos];rw[show(-((0:Nat):Int))=((0:Nat):Int)from rfl,jl,jl,BitVec.toNat_xor,j6,j6];rw[show(0%2^IntKind.i64.bits)=0 from rfl,Nat.xor_zero,IntKind.wrap_i64,show IntKind.i64.bits=64 from rfl];omega
 ·rw[if_neg (by decide)];simp only[bits];have hone:BitVec.ofInt IntKind.i64.bits (-((1:Nat):Int))=BitVec.allOnes IntKind.i64.bits:=by decide
  rw[hone,jl,BitVec.xor_allOnes,BitVec.toNat_not,j6,IntKind.wrap_i64,show IntKind.i64.bits=64 from rfl];omega
theorem aNq(z k c:Nat)(hz:z<128^k)(hk:k<=9)(hc:c<256)(h9:k=9->c<=1):
  bits .or .u64 (z:Int) (ι .u64 ((ι .u64 ((bits .and .u8 (c:Int) 127)))*2^(7*(k:Int)).toNat))=((z+c%128*128^k:Nat):Int)/\z+c%128*128^k<18446744073709551616/\(k<9->z+c%128*128^k<128^(k+1)):=by
 have p9:128^k<=9223372036854775808:=cj (ij (by decide) hk) (by decide);have hm:c%128<128:=Nat.mod_lt _ (by decide);have hb:z+c%128*128^k<18446744073709551616/\(k<9->z+c%128*128^k<128^(k+1)):=by
  have e:128^(k+1)=128^k*128:=rfl;have h1:c%128*128^k<=127*128^k:=cq _ (by omega);refine⟨?_,fun _=>by omega⟩;by_cases h:k=9
  ·subst h;have h2:c%128*128^9<=1*128^9:=cq _ (by have:=h9 rfl;omega);omega
  ·have p8:128^k<=72057594037927936:=cj (ij (by decide) (show k<=8 by omega)) (by decide);omega
 refine⟨?_,hb⟩;have e1:bits .and .u8 (c:Int) 127=((c%128:Nat):Int):=by have:=bits_mask .u8 8 (by decide) wraps_u8 7 (by decide) (c:Int) (by omega) (by omega);rw[show((2:Int)^7-1)=127 from rfl]at this;rw[this];omega
 have e2:(2:Int)^(7*(k:Int)).toNat=((128^k:Nat):Int):=by rw[show(7*(k:Int)).toNat=7*k by omega,Int.pow_mul];simp
 have hx:c%128*128^k<18446744073709551616:=by omega
 rw[e1,q64 (x:=((c%128:Nat):Int)) (by omega) (by omega),e2,<-Int.natCast_mul,q64 (x:=((c%128*128^k:Nat):Int)) (by omega) (by omega),(bits_nat .u64 64 (by decide) aHe _ _ (by omega) (by omega)).2];congr 1;have e3:128^k=2^(7*k):=by rw[Nat.pow_mul]
 rw[e3]at hz|-;have:=Nat.shiftLeft_add_eq_or_of_lt hz (c%128);rw[Nat.shiftLeft_eq]at this;rw[Nat.or_comm,<-this,Nat.add_comm]
def giL:Nat->Nat->Str->TE⊕TL
 |_,z,[]=>.inr ((z:Int),0)
 |k,z,c::r=>if(k=9/\1<c.toNat)\/(0<k/\c.toNat=0)then .inl (0,(0,11))else if c.toNat<128 then .inr (((z+c.toNat%128*128^k:Nat):Int),((k+1:Nat):Int))else giL (k+1) (z+c.toNat%128*128^k) r
def giT:TE⊕TL->Int×Int×Int
 |.inl r=>r
 |.inr v=>if v.2=0 then(0,0,10)else(unz v.1.toNat,v.2,0)
theorem aZz:∀(r:Str) (k z:Nat),giT (giL k z r)=giN k z r
 |[],k,z=>rfl
 |c::r,k,z=>by
  rw[giL,giN];by_cases h:(k=9/\1<c.toNat)\/(0<k/\c.toNat=0)
  ·rw[if_pos h,if_pos h];rfl
  ·rw[if_neg h,if_neg h];by_cases h2:c.toNat<128
   ·rw[if_pos h2,if_pos h2];unfold giT;dsimp only;rw[if_neg (by omega),χ]
   ·rw[if_neg h2,if_neg h2];exact aZz r _ _
theorem bA4:∀(r:Str) (k z:Nat) (v:Int×Int),k<=9->z<128^k->giL k z r=.inr v->∃y:Nat,v.1=(y:Int)/\y<18446744073709551616/\∃u:Nat,v.2=(u:Int)
 |[],k,z,v,hk,hz,h=>by
  cases h;have p9:128^k<=9223372036854775808:=cj (ij (by decide) hk) (by decide);exact⟨z,rfl,by omega,0,rfl⟩
 |c::r,k,z,v,hk,hz,h=>by
  rw[giL]at h;have hcl:=c.toNat_lt;by_cases hb:(k=9/\1<c.toNat)\/(0<k/\c.toNat=0)
  ·rw[if_pos hb]at h;cases h
  ·rw[if_neg hb]at h;obtain⟨_,h2,h3⟩:=aNq z k c.toNat hz hk (by omega) (by omega);by_cases hh:c.toNat<128
   ·rw[if_pos hh]at h;cases h;exact⟨_,rfl,h2,k+1,rfl⟩
   ·rw[if_neg hh]at h;exact bA4 r (k+1) _ v (by omega) (h3 (by omega)) h
theorem bEr(m:Nat):eY (m+1)=iH (eY m):=rfl
theorem aQ6(s:Str):∀(r:Str) (k z m:Nat),s.drop k=r->k<=9->z<128^k->10<m+k->eY m (z:Int) 0 (aG s) (((aG s).length:Nat):Int) (k:Int)=some (giL k z r)
 |r,k,z,0,_,_,_,h=>by omega
 |[],k,z,m+1,hr,hk,hz,hm=>by
  have:s.length<=k:=by have:=congrArg List.length hr;rw[aw,ba]at this;omega
  rw[bEr];unfold iH;rw[aJ,aK (decide_eq_false (by omega))];rfl
 |c::r,k,z,m+1,hr,hk,hz,hm=>by
  have hlen:k<s.length:=by have:=congrArg List.length hr;rw[aw,τ]at this;omega
  have hc:s[k]=c:=by have:=congrArg (·[0]?) hr;simp only[dm,Nat.add_zero,ep]at this;rw[μ hlen]at this;exact Option.some.inj this
  have hr':s.drop (k+1)=r:=by have:=congrArg List.tail hr;rw[List.tail_drop]at this;exact this
  have hcl:=c.toNat_lt;have hget:(aG s)[k]?=some (c.toNat:Int):=by rw[aAc,μ hlen,hc];rfl
  have rec_:=fun z' h1 h2 h3=>aQ6 s r (k+1) z' m hr' h1 h2 h3;rw[bEr,giL];unfold iH;rw[aJ]at rec_|-;rw[aI (decide_eq_true (by omega)),hU hget];generalize hcn:c.toNat=d at*;by_cases hbad:(k=9/\1<d)\/(0<k/\d=0)
  ·rw[if_pos hbad];by_cases h9:k=9
   ·subst h9;rw[show(((9:Nat):Int)==9)=true from rfl,aS,aB];dsimp only;by_cases h1:1<d
    ·rw[aI (decide_eq_true (by omega)),aB];rfl
    ·have h0:d=0:=by omega
     subst h0;rfl
   ·have hd:0<k/\d=0:=by omega
    rw[show((k:Int)==9)=false by rw[beq_eq_false_iff_ne];omega,aR,aB];dsimp only;rw[aR,aI (decide_eq_true (by omega)),aB];dsimp only;rw[show((d:Int)==0)=true by rw[beq_iff_eq];omega,aS];rfl
  ·rw[if_neg hbad];obtain⟨e1,e2,e3⟩:=aNq z k d hz hk (by omega) (by omega);have fin:∀x:Bool,x=false->(bd? (some ((z:Int),(0:Int),(k:Int),(d:Int),aG s,(s.length:Int),(k:Int),x)) fun w10=>if? (w10.2.2.2.2.2.2.2) (jE (some ((0,(0,11))))) (ck .i64 ((7*w10.2.2.1)) (gd? ((0<=(7*w10.2.2.1))) (gd? (((7*w10.2.2.1)<=(((IntKind.bits .u64):Nat):Int))) (if? (decide (w10.2.2.2.1<128)) (ck .i64 ((w10.2.2.1+1)) (some (.inr ((bits .or .u64 w10.1 (ι .u64 ((ι .u64 (bits .and .u8 w10.2.2.2.1 127))*(2^(7*w10.2.2.1).toNat)))),(w10.2.2.1+1))))) (ck .i64 ((w10.2.2.2.2.2.2.1+1)) (eY m (bits .or .u64 w10.1 (ι .u64 ((ι .u64 (bits .and .u8 w10.2.2.2.1 127))*(2^(7*w10.2.2.1).toNat)))) w10.2.1 w10.2.2.2.2.1 w10.2.2.2.2.2.1 (w10.2.2.2.2.2.2.1+1))))))))=some (if d<128 then .inr (((z+d%128*128^k:Nat):Int),((k+1:Nat):Int))else giL (k+1) (z+d%128*128^k) r):=by
    intro x hx;subst hx;rw[aB];dsimp only;rw[aR,bO (by omega) (by omega),aL (by omega),aL (by show _<=((64:Nat):Int);omega),e1];by_cases hh:d<128
    ·rw[aI (decide_eq_true (by omega)),bO (by omega) (by omega),if_pos hh,show(k:Int)+1=((k+1:Nat):Int) by omega]
    ·rw[aK (decide_eq_false (by omega)),bO (by omega) (by omega),if_neg hh,show(k:Int)+1=((k+1:Nat):Int) by omega];exact rec_ _ (by omega) (e3 (by omega)) (by omega)
   by_cases h9:k=9
   ·rw[show((k:Int)==9)=true by rw[beq_iff_eq];omega,aS,aB];dsimp only;rw[aK (decide_eq_false (by omega)),aI (decide_eq_true (by omega))];exact fin _ (by rw[beq_eq_false_iff_ne];omega)
   ·rw[show((k:Int)==9)=false by rw[beq_eq_false_iff_ne];omega,aR,aB];dsimp only;rw[aR];by_cases h0:0<k
    ·rw[aI (decide_eq_true (by omega))];exact fin _ (by rw[beq_eq_false_iff_ne];omega)
    ·rw[aK (decide_eq_false (by omega))];exact fin _ rfl
def gi(s:Str):Int×Int×Int:=giN 0 0 s
theorem aBa(hN:11<=N)(s:Str):fC N (aG s)=some (gi s):=by
 unfold fC;have h:=aQ6 s s 0 0 N rfl (by omega) (by decide) (by omega);rw[show(((0:Nat):Int))=0 from rfl]at h;rw[h];unfold gi;rw[<-aZz];cases e:giL 0 0 s with
 |inl r=>rfl
 |inr v=>
  obtain⟨y,h1,h2,u,h3⟩:=bA4 s 0 0 v (by omega) (by decide) e;obtain⟨a,b⟩:=v;dsimp only at h1 h3;subst h1 h3;rw[aGw];dsimp only[giT];by_cases hu:u=0
  ·subst hu;rfl
  ·have e5:bits .and .u64 (y:Int) 1=((y%2:Nat):Int):=by have:=bits_mask .u64 64 (by decide) aHe 1 (by decide) (y:Int) (by omega) (by omega);rw[show((2:Int)^1-1)=1 from rfl]at this;rw[this];omega
   have e4:(y:Int)/2^1=((y/2:Nat):Int):=rfl;rw[aK (by rw[beq_eq_false_iff_ne];omega),e5,e4,aJr (n:=((y%2:Nat):Int)) (by omega) (by omega),aJr (n:=((y/2:Nat):Int)) (by omega) (by omega),bO (by omega) (by omega),aZh _ _ (by omega) (by omega),if_neg (show¬((u:Int)=0) by omega),χ];rfl
set_option maxRecDepth 8000
set_option synthInstance.maxSize 100000
set_option synthInstance.maxHeartbeats 400000
theorem aXj{z:Nat}(h:z<18446744073709551616):I64 (unz z):=by unfold unz I64;split<;>omega
theorem aWu:∀(s:Str) (k z:Nat),k<=9->z<128^k->(((giN k z s).2.2=0/\∃u:Nat,(giN k z s).2.1=(u:Int)/\k+1<=u/\u<=k+s.length/\u<=10/\I64 (giN k z s).1)\/((giN k z s).1=0/\(giN k z s).2.1=0/\((giN k z s).2.2=10\/(giN k z s).2.2=11)))
 |[],k,z,_,_=>.inr ⟨rfl,rfl,.inl rfl⟩
 |c::s,k,z,hk,hz=>by
  rw[giN];by_cases hb:(k=9/\1<c.toNat)\/(0<k/\c.toNat=0)
  ·rw[if_pos hb];exact .inr ⟨rfl,rfl,.inr rfl⟩
  ·rw[if_neg hb];have hcl:=c.toNat_lt;obtain⟨_,h2,h3⟩:=aNq z k c.toNat hz hk (by omega) (by omega);by_cases hh:c.toNat<128
   ·rw[if_pos hh];exact .inl ⟨rfl,k+1,rfl,by omega,by simp only[τ];omega,by omega,aXj h2⟩
   ·rw[if_neg hh];have hk9:k<9:=by omega
    rcases aWu s (k+1) _ (by omega) (h3 hk9)with⟨e,u,h1,h2,h3,h4,h5⟩|h
    ·exact .inl ⟨e,u,h1,by omega,by simp only[τ];omega,h4,h5⟩
    ·exact .inr h
theorem vE(s:Str):((gi s).2.2=0/\∃u:Nat,(gi s).2.1=(u:Int)/\1<=u/\u<=s.length/\u<=10/\I64 (gi s).1)\/((gi s).1=0/\(gi s).2.1=0/\((gi s).2.2=10\/(gi s).2.2=11)):=by
 rcases aWu s 0 0 (by omega) (by decide)with⟨e,u,h1,h2,h3,h4,h5⟩|h
 ·exact .inl ⟨e,u,h1,by omega,by omega,h4,h5⟩
 ·exact .inr h
def bB(s:Str):Int×Int×Int:=
 if(gi s).2.2≠0 then(0,0,(gi s).2.2)else if(gi s).1<0 then(0,0,11)else if(gi s).1>(s.length:Int)-(gi s).2.1 then(0,0,10)else((gi s).1,(gi s).2.1,0)
theorem kV{b:Int}(h:a=b):(a !=b)=false:=by rw[bne_eq_false_iff_eq];exact h
theorem kP{b:Int}(h:a≠b):(a !=b)=true:=by rw[bne_iff_ne];exact h
theorem aA4(hN:11<=N)(s:Str)(hs:s.length<=1000000):fD N (aG s) 1=some (bB s):=by
 unfold fD bB;rw[aBa hN,aB,aJ];rcases vE s with⟨e,u,h1,h2,h3,h4,h5⟩|⟨h1,h2,h3⟩
 ·obtain⟨b1,b2⟩:=h5;rw[kV e,aR,if_neg (by rw[e];simp),h1,Int.tdiv_one];by_cases hn:(gi s).1<0
  ·rw[aI (decide_eq_true hn),if_pos hn]
  ·rw[aK (decide_eq_false hn),if_neg hn,bO (by omega) (by omega),aL (by decide),bO (by omega) (by omega)];by_cases hg:(gi s).1>(s.length:Int)-(u:Int)
   ·rw[aI (decide_eq_true hg),if_pos hg]
   ·rw[aK (decide_eq_false hg),if_neg hg]
 ·have hne:(gi s).2.2≠0:=by omega
  rw[kP hne,aS,if_pos hne]
theorem jO(s:Str):((bB s).2.2=0/\∃n u:Nat,bB s=((n:Int),(u:Int),0)/\1<=u/\n+u<=s.length)\/((bB s).1=0/\(bB s).2.1=0/\((bB s).2.2=10\/(bB s).2.2=11)):=by
 unfold bB;rcases vE s with⟨e,u,h1,h2,h3,h4,h5⟩|⟨h1,h2,h3⟩
 ·rw[if_neg (by rw[e];simp)];by_cases hn:(gi s).1<0
  ·rw[if_pos hn];exact .inr ⟨rfl,rfl,.inr rfl⟩
  ·rw[if_neg hn];by_cases hg:(gi s).1>(s.length:Int)-(gi s).2.1
   ·rw[if_pos hg];exact .inr ⟨rfl,rfl,.inl rfl⟩
   ·rw[if_neg hg];refine .inl ⟨rfl,(gi s).1.toNat,u,?_,h2,by omega⟩;rw[h1,Int.toNat_of_nonneg (by omega)]
 ·rw[if_pos (by omega)];exact .inr ⟨rfl,rfl,h3⟩
def jC:Nat->Str->Int->List Int->List Int×Int×Int
 |0,_,a,acc=>(acc,a,0)
 |n+1,r,a,acc=>if(gi r).2.2≠0 then([],0,(gi r).2.2)else jC n (r.drop (gi r).2.1.toNat) (a+(gi r).2.1) (acc++[(gi r).1])
theorem uA(s:Str)(a:Nat):((aG s).drop a).take ((aG s).length-a)=aG (s.drop a):=by rw[wE,bf (by rw[aw];exact ω _)]
theorem bBg(N m:Nat):gR N (m+1)=gY N (gR N m):=rfl
def swp{α:Type}(v:α×Int×Int):Int×(Int×α):=(v.2.1,(v.2.2,v.1))
theorem aEs{N:Nat}(hN:11<=N)(s:Str)(v:Nat)(hs:s.length<=1000000):∀(n a b m:Nat) (acc:List Int),v=b+n->a<=s.length->b+n<=1000000->acc.length=b->n<m->
  gR N m (aG s) (a:Int) (v:Int) (b:Int) acc=some (swp (jC n (s.drop a) (a:Int) acc))
 |n,a,b,0,acc,_,_,_,_,h=>by omega
 |0,a,b,m+1,acc,hv,ha,hb,hacc,_=>by
  rw[bBg];unfold gY;rw[aK (decide_eq_false (by omega)),aC];rfl
 |n+1,a,b,m+1,acc,hv,ha,hb,hacc,hm=>by
  rw[bBg];unfold gY;rw[aI (decide_eq_true (by omega)),aL (by omega),χ,aL (by rw[aJ];exact ha),aL (ω _),uA,aBa hN,aB,jC];rcases vE (s.drop a)with⟨e,u,h1,h2,h3,h4,h5⟩|⟨h1,h2,h3⟩
  ·rw[aw]at h3;rw[kV e,aR,if_neg (by rw[e];simp),aC,aL (by simp only[τ,ba];omega),h1,bO (by omega) (by omega),bO (by omega) (by omega),aC,show((a:Int)+(u:Int))=((a+u:Nat):Int) by omega,show((b:Int)+1)=((b+1:Nat):Int) by omega,
    aEs hN s v hs n (a+u) (b+1) m _ (by omega) (by omega) (by omega) (by simp[hacc]) (by omega),χ,di]
  ·have hne:(gi (s.drop a)).2.2≠0:=by omega
   rw[kP hne,aS,if_pos hne];rfl
def aD(s:Str):List Int×Int×Int:=if(bB s).2.2≠0 then([],0,(bB s).2.2)else jC (bB s).1.toNat (s.drop (bB s).2.1.toNat) (bB s).2.1 []
theorem aF8(s:Str)(hN:11<=N)(hs:s.length<N)(hb:s.length<=1000000):gD N (aG s)=some (swp (aD s)):=by
 unfold gD nP aD;rw[aA4 hN s hb,aB];rcases jO s with⟨e,n,u,h1,h2,h3⟩|⟨h1,h2,h3⟩
 ·rw[kV e,aR,if_neg (by rw[e];simp)];have e1:(bB s).1=(n:Int):=by rw[h1]
  have e2:(bB s).2.1=(u:Int):=by rw[h1]
  rw[e2,e1];have:=aEs hN s n hb n u 0 N [] (by omega) (by omega) (by omega) rfl (by omega);rw[show(((0:Nat):Int))=0 from rfl]at this;rw[this,aB,χ,χ,aC]
  try rfl
 ·have hne:(bB s).2.2≠0:=by omega
  rw[kP hne,aS,if_pos hne,aB,aC]
  try rfl
def bD(s:Str):Str×Int×Int:=if(bB s).2.2≠0 then([],0,(bB s).2.2)else((s.drop (bB s).2.1.toNat).take (bB s).1.toNat,(bB s).2.1+(bB s).1,0)
theorem aNg(s:Str)(hN:11<=N)(hb:s.length<=1000000):iN N (aG s)=some (bD s):=by
 unfold iN bD;rw[aA4 hN s hb,aB];rcases jO s with⟨e,n,u,h1,h2,h3⟩|⟨h1,h2,h3⟩
 ·rw[kV e,aR,if_neg (by rw[e];simp)];have e1:(bB s).1=(n:Int):=by rw[h1]
  have e2:(bB s).2.1=(u:Int):=by rw[h1]
  rw[e1,e2,bO (by omega) (by omega),aL (by omega),aL (by omega),aL (by omega),aL (by rw[aJ];omega),bO (by omega) (by omega),χ,χ,show((u:Int)+(n:Int)).toNat-u=n by omega,<-wE,<-aFa,bS]
 ·have hne:(bB s).2.2≠0:=by omega
  rw[kP hne,aS,if_pos hne]
theorem aAu(s:Str):((bD s).2.2=0/\∃u:Nat,(bD s).2.1=(u:Int)/\1<=u/\u<=s.length/\(bD s).1.length<=s.length)\/((bD s).1=[]/\(bD s).2.1=0/\((bD s).2.2=10\/(bD s).2.2=11)):=by
 unfold bD;rcases jO s with⟨e,n,u,h1,h2,h3⟩|⟨h1,h2,h3⟩
 ·rw[if_neg (by rw[e];simp)];refine .inl ⟨rfl,u+n,by rw[h1];rfl,by omega,by omega,?_⟩;show((s.drop _).take _).length<=_;rw[cp,aw];omega
 ·rw[if_pos (by omega)];exact .inr ⟨rfl,rfl,h3⟩
def iW:Nat->Str->Int->List Str->List Str×Int×Int
 |0,_,a,acc=>(acc,a,0)
 |n+1,r,a,acc=>if(bD r).2.2≠0 then([],0,(bD r).2.2)else iW n (r.drop (bD r).2.1.toNat) (a+(bD r).2.1) (acc++[(bD r).1])
theorem bAw(N m:Nat):eB N (m+1)=eA N (eB N m):=rfl
theorem aEt{N:Nat}(hN:11<=N)(s:Str)(v:Nat)(hs:s.length<=1000000):∀(n a b m:Nat) (acc:List Str),v=b+n->a<=s.length->b+n<=1000000->acc.length=b->n<m->
  eB N m (aG s) (a:Int) (v:Int) (b:Int) acc=some (swp (iW n (s.drop a) (a:Int) acc))
 |n,a,b,0,acc,_,_,_,_,h=>by omega
 |0,a,b,m+1,acc,hv,ha,hb,hacc,_=>by
  rw[bAw];unfold eA;rw[aK (decide_eq_false (by omega)),aC];rfl
 |n+1,a,b,m+1,acc,hv,ha,hb,hacc,hm=>by
  rw[bAw];unfold eA;rw[aI (decide_eq_true (by omega)),aL (by omega),χ,aL (by rw[aJ];exact ha),aL (ω _),uA,aNg _ hN (by rw[aw];omega),aB,iW];rcases aAu (s.drop a)with⟨e,u,h1,h2,h3,h4⟩|⟨h1,h2,h3⟩
  ·rw[aw]at h3;rw[kV e,aR,if_neg (by rw[e];simp),aC,aL (by simp only[τ,ba];omega),h1,bO (by omega) (by omega),bO (by omega) (by omega),aC,show((a:Int)+(u:Int))=((a+u:Nat):Int) by omega,show((b:Int)+1)=((b+1:Nat):Int) by omega,
    aEt hN s v hs n (a+u) (b+1) m _ (by omega) (by omega) (by omega) (by simp[hacc]) (by omega),χ,di]
  ·have hne:(bD (s.drop a)).2.2≠0:=by omega
   rw[kP hne,aS,if_pos hne];rfl
def cO(s:Str):List Str×Int×Int:=if(bB s).2.2≠0 then([],0,(bB s).2.2)else iW (bB s).1.toNat (s.drop (bB s).2.1.toNat) (bB s).2.1 []
theorem aGc(s:Str)(hN:11<=N)(hs:s.length<N)(hb:s.length<=1000000):fK N (aG s)=some (swp (cO s)):=by
 unfold fK kH cO;rw[aA4 hN s hb,aB];rcases jO s with⟨e,n,u,h1,h2,h3⟩|⟨h1,h2,h3⟩
 ·rw[kV e,aR,if_neg (by rw[e];simp)];have e1:(bB s).1=(n:Int):=by rw[h1]
  have e2:(bB s).2.1=(u:Int):=by rw[h1]
  rw[e2,e1];have:=aEt hN s n hb n u 0 N [] (by omega) (by omega) (by omega) rfl (by omega);rw[show(((0:Nat):Int))=0 from rfl]at this;rw[this,aB,χ,χ,aC]
  try rfl
 ·have hne:(bB s).2.2≠0:=by omega
  rw[kP hne,aS,if_pos hne,aB,aC]
  try rfl
theorem pS{b:Int}(h:a=b):(a==b)=true:=by rw[beq_iff_eq];exact h
theorem pZ{b:Int}(h:a≠b):(a==b)=false:=by rw[beq_eq_false_iff_ne];exact h
theorem aMt:∀(n:Nat) (r:Str) (a:Nat) (acc:List Int),(∀x∈acc,I64 x)->((jC n r (a:Int) acc).2.2=0/\∃u:Nat,(jC n r (a:Int) acc).2.1=(u:Int)/\a<=u/\u<=a+r.length/\(jC n r (a:Int) acc).1.length=acc.length+n/\∀x∈(jC n r (a:Int) acc).1,I64 x)\/((jC n r (a:Int) acc).2.2≠0)
 |0,r,a,acc,h=>.inl ⟨rfl,a,rfl,by omega,by omega,rfl,h⟩
 |n+1,r,a,acc,h=>by
  rw[jC];rcases vE r with⟨e,u,h1,h2,h3,h4,h5⟩|⟨h1,h2,h3⟩
  ·rw[if_neg (by rw[e];simp),h1,show((a:Int)+(u:Int))=((a+u:Nat):Int) by omega,χ];rcases aMt n (r.drop u) (a+u) (acc++[(gi r).1]) (fun x hx=>by
    rcases dh.1 hx with hx|hx
    ·exact h x hx
    ·rw[bk.1 hx];exact h5)with⟨e',u',g1,g2,g3,g4,g5⟩|g
   ·rw[aw]at g3;exact .inl ⟨e',u',g1,by omega,by omega,by rw[g4];simp;omega,g5⟩
   ·exact .inr g
  ·have hne:(gi r).2.2≠0:=by omega
   rw[if_pos hne];exact .inr hne
theorem kA(s:Str):((aD s).2.2=0/\∃u:Nat,(aD s).2.1=(u:Int)/\u<=s.length/\(aD s).1.length<=s.length/\∀x∈(aD s).1,I64 x)\/((aD s).2.2≠0):=by
 unfold aD;rcases jO s with⟨e,n,u,h1,h2,h3⟩|⟨h1,h2,h3⟩
 ·rw[if_neg (by rw[e];simp)];have e1:(bB s).1=(n:Int):=by rw[h1]
  have e2:(bB s).2.1=(u:Int):=by rw[h1]
  rw[e1,e2,χ,χ];rcases aMt n (s.drop u) u [] (fun x hx=>by cases hx)with⟨e',u',g1,g2,g3,g4,g5⟩|g
  ·rw[aw]at g3;exact .inl ⟨e',u',g1,by omega,by rw[g4];simp;omega,g5⟩
  ·exact .inr g
 ·have hne:(bB s).2.2≠0:=by omega
  rw[if_pos hne];exact .inr hne
theorem aMo:∀(n:Nat) (r:Str) (a:Nat) (acc:List Str),((iW n r (a:Int) acc).2.2=0/\∃u:Nat,(iW n r (a:Int) acc).2.1=(u:Int)/\a<=u/\u<=a+r.length/\(iW n r (a:Int) acc).1.length=acc.length+n/\∀b:Nat,r.length<=b->(∀x∈acc,x.length<=b)->∀x∈(iW n r (a:Int) acc).1,x.length<=b)\/((iW n r (a:Int) acc).2.2≠0)
 |0,r,a,acc=>.inl ⟨rfl,a,rfl,by omega,by omega,rfl,fun _ _ h=>h⟩
 |n+1,r,a,acc=>by
  rw[iW];rcases aAu r with⟨e,u,h1,h2,h3,h4⟩|⟨h1,h2,h3⟩
  ·rw[if_neg (by rw[e];simp),h1,show((a:Int)+(u:Int))=((a+u:Nat):Int) by omega,χ];rcases aMo n (r.drop u) (a+u) (acc++[(bD r).1])with⟨e',u',g1,g2,g3,g4,g5⟩|g
   ·rw[aw]at g3;refine .inl ⟨e',u',g1,by omega,by omega,by rw[g4];simp;omega,fun b hb hx=>g5 b (by rw[aw];omega) fun x hx'=>?_⟩;rcases dh.1 hx' with hx'|hx'
    ·exact hx x hx'
    ·rw[bk.1 hx'];omega
   ·exact .inr g
  ·have hne:(bD r).2.2≠0:=by omega
   rw[if_pos hne];exact .inr hne
theorem xB(s:Str):((cO s).2.2=0/\∃u:Nat,(cO s).2.1=(u:Int)/\u<=s.length/\(cO s).1.length<=s.length/\∀x∈(cO s).1,x.length<=s.length)\/((cO s).2.2≠0):=by
 unfold cO;rcases jO s with⟨e,n,u,h1,h2,h3⟩|⟨h1,h2,h3⟩
 ·rw[if_neg (by rw[e];simp)];have e1:(bB s).1=(n:Int):=by rw[h1]
  have e2:(bB s).2.1=(u:Int):=by rw[h1]
  rw[e1,e2,χ,χ];rcases aMo n (s.drop u) u []with⟨e',u',g1,g2,g3,g4,g5⟩|g
  ·rw[aw]at g3;exact .inl ⟨e',u',g1,by omega,by rw[g4];simp;omega,g5 s.length (by rw[aw];omega) fun x hx=>by cases hx⟩
  ·exact .inr g
 ·have hne:(bB s).2.2≠0:=by omega
  rw[if_pos hne];exact .inr hne
def hd(s:Str)(k:Int)(c:Nat)(more:Bool):Option (List Int×List Str):=
 if(aD s).2.2=0/\(aD s).1.length=c/\(aD s).1.getD 0 0=k then
  if more=true then
   if(cO (s.drop (aD s).2.1.toNat)).2.2=0/\(aD s).2.1+(cO (s.drop (aD s).2.1.toNat)).2.1=(s.length:Int)then some ((aD s).1,(cO (s.drop (aD s).2.1.toNat)).1)else none
  else if(aD s).2.1=(s.length:Int)then some ((aD s).1,[])else none
 else none
theorem aE9(s:Str)(a:Nat):(s.drop a).take (s.length-a)=s.drop a:=bf (by rw[aw];exact ω _)
def oS{α:Type}:Option α->α⊕Unit
 |some x=>.inl x
 |none=>.inr ()
theorem sH(N:Nat){b:Bool}(h:b=true):aY N b=some (.inl ()):=by subst h;rfl
theorem jY(N:Nat){b:Bool}(h:b=false):aY N b=some (.inr ()):=by subst h;rfl
theorem aIv(s:Str)(k:Int)(c:Nat)(more:Bool)(hN:11<=N)(hs:s.length<N)(hb:s.length<=1000000)(hc:1<=c):jA N s k (c:Int) more=some (oS (hd s k c more)):=by
 unfold jA hd;rw[aF8 s hN hs hb,aB];unfold swp;dsimp only;rcases kA s with⟨e,u,h1,h2,h3,h4⟩|h
 ·rw[pS e,aS];by_cases hl:(aD s).1.length=c
  ·obtain⟨x,r,hx⟩:∃x r,(aD s).1=x::r:=by
    cases hg:(aD s).1 with
    |nil=>rw[hg]at hl;simp at hl;omega
    |cons x r=>exact⟨x,r,rfl⟩
   have hg0:(aD s).1[0]?=some x:=by rw[hx];rfl
   have hgD:(aD s).1.getD 0 0=x:=by rw[hx];rfl
   rw[pS (show((aD s).1.length:Int)=(c:Int) by omega),aS,aL (by omega),bBo hg0,hgD];by_cases hk:x=k
   ·rw[sH N (pS hk),aB,nY,aC,aGw,if_pos ⟨e,hl,hk⟩];dsimp only;cases more with
    |true=>
     rw[fv,aR,if_pos rfl,h1,χ,aL (by omega),aL h2,aL (ω _),aE9,aGc _ hN (by rw[aw];omega) (by rw[aw];omega),aB];unfold swp;dsimp only;rcases xB (s.drop u)with⟨e',u',g1,g2,g3,g4⟩|g
     ·rw[aw]at g2;rw[pS e',aS,g1,bO (by omega) (by omega)];by_cases hh:(u:Int)+(u':Int)=(s.length:Int)
      ·rw[sH N (pS hh),aB,nY,aC,aC,aGw,if_pos ⟨e',hh⟩];dsimp only;rw[aC,aC];rfl
      ·rw[jY N (pZ hh),aB,lE,nO,vY,if_neg (fun q=>hh q.2)];rfl
     ·rw[pZ g,aR,jY N rfl,aB,lE,nO,vY,if_neg (fun q=>g q.1)];rfl
    |false=>
     rw[Bool.not_false,aS,if_neg (by decide)];by_cases hh:(aD s).2.1=(s.length:Int)
     ·rw[sH N (pS hh),aB,nY,aC,if_pos hh];rfl
     ·rw[jY N (pZ hh),aB,lE,if_neg hh];rfl
   ·rw[jY N (pZ hk),aB,lE,nO,vY,if_neg (fun q=>hk q.2.2)];rfl
  ·rw[pZ (show((aD s).1.length:Int)≠(c:Int) by omega),aR,jY N rfl,aB,lE,nO,vY,if_neg (fun q=>hl q.2.1)];rfl
 ·rw[pZ h,aR,jY N rfl,aB,lE,nO,vY,if_neg (fun q=>h q.1)];rfl
theorem aHf{k:Int}{c:Nat}{more:Bool}{v:List Int×List Str}(h:hd s k c more=some v):v.1.length=c/\(∀x∈v.1,I64 x)/\v.2.length<=s.length/\∀x∈v.2,x.length<=s.length:=by
 unfold hd at h;split at h
 ·rename_i hh;obtain⟨e,hl,hk⟩:=hh;rcases kA s with⟨_,u,h1,h2,h3,h4⟩|g
  ·split at h
   ·split at h
    ·rename_i hh;cases h;rcases xB (s.drop (aD s).2.1.toNat)with⟨_,u',g1,g2,g3,g4⟩|g
     ·rw[aw]at g3 g4;exact⟨hl,h4,cj g3 (Nat.sub_le _ _),fun x hx=>cj (g4 x hx) (Nat.sub_le _ _)⟩
     ·exact absurd hh.1 g
    ·cases h
   ·split at h
    ·cases h;exact⟨hl,h4,by simp,fun x hx=>by cases hx⟩
    ·cases h
  ·exact absurd e g
 ·cases h
def uvI(n:Int):Str:=uvarint (zigzag n)
def cC(l:List Int):Str:=uvI (l.length:Int)++l.flatMap uvI
def gL(s:Str):Str:=uvI (s.length:Int)++s
def pC(l:List Str):Str:=uvI (l.length:Int)++l.flatMap gL
theorem aOn(h:I64 n):zigzag n<18446744073709551616:=by obtain⟨h1,h2⟩:=h;unfold zigzag;split<;>omega
theorem aXw(n:Int):unz (zigzag n)=n:=by unfold unz zigzag;split<;>split<;>omega
theorem cX(h:I64 n):1<=(uvI n).length/\(uvI n).length<=10:=⟨uvarint_pos _,uvarint_length64 (aOn h)⟩
theorem aXg(r:Str):∀(x k z:Nat),z+x*128^k<18446744073709551616->(0<x\/k=0)->giN k z (uvarint x++r)=(unz (z+x*128^k),((k+(uvarint x).length:Nat):Int),0):=by
 intro x
 induction x using Nat.strongRecOn with
 |_ x ih=>
  intro k z hb h0;have h9:k=9->x<=1:=fun e=>by subst e;have:128^9=9223372036854775808:=rfl;rw[this]at hb;omega
  by_cases hx:x<128
  ·rw[uvarint_small hx,List.singleton_append,giN];have hc:x.toUInt8.toNat=x:=by show x%256=x;omega
   rw[hc,if_neg (by omega),if_pos hx,Nat.mod_eq_of_lt hx];rfl
  ·rw[uvarint_big (by omega),gn,giN];have hc:(x%128+128).toUInt8.toNat=x%128+128:=by show(x%128+128)%256=_;omega
   have e:z+x%128*128^k+x/128*128^(k+1)=z+x*128^k:=by
    have h1:x/128*128^(k+1)=(x/128*128)*128^k:=by rw[Nat.pow_succ,Nat.mul_comm (128^k) 128,Nat.mul_assoc]
    rw[h1,ei,<-cf];congr 2;omega
   rw[hc,if_neg (by omega),if_neg (by omega),show(x%128+128)%128=x%128 by omega,ih (x/128) (by omega) (k+1) _ (by rw[e];exact hb) (.inl (by omega)),e,τ];have:k+1+(uvarint (x/128)).length=k+((uvarint (x/128)).length+1):=by omega
   rw[this]
theorem aKb(h:I64 n)(r:Str):gi (uvI n++r)=(n,((uvI n).length:Int),0):=by unfold gi uvI;rw[aXg r (zigzag n) 0 0 (by have:=aOn h;omega) (.inr rfl),az,Nat.pow_zero,cu,aXw,az]
theorem cW{n:Nat}(h:n<=1000000):I64 (n:Int):=⟨by omega,by omega⟩
theorem aE8{n:Nat}(h:n<=1000000)(r:Str)(hr:n<=r.length):bB (uvI (n:Int)++r)=((n:Int),((uvI (n:Int)).length:Int),0):=by unfold bB;rw[aKb (cW h)];rw[if_neg (by simp),if_neg (by simp only;omega),if_neg (by simp only[κ];omega)]
theorem yQ{α:Type}(f:α->Str):∀(l:List α),(∀x∈l,1<=(f x).length)->l.length<=(l.flatMap f).length
 |[],_=>ω _
 |x::l,h=>by rw[b6,κ,τ];have:=yQ f l (fun y hy=>h y (by simp[hy]));have:=h x (by simp);omega
theorem kD(a b:List α):(a++b).drop a.length=b:=by rw[List.drop_append,cm (ω _),cn,Nat.sub_self,de]
theorem aUz(a b:List α):(a++b).take a.length=a:=by rw[List.take_append,bf (ω _),Nat.sub_self,List.take_zero,υ]
theorem aHw(r:Str):∀(l:List Int) (a:Nat) (acc:List Int),(∀x∈l,I64 x)->jC l.length (l.flatMap uvI++r) (a:Int) acc=(acc++l,((a+(l.flatMap uvI).length:Nat):Int),0)
 |[],a,acc,_=>by rw[υ];rfl
 |x::l,a,acc,h=>by rw[b6,π,τ,jC,aKb (h x (by simp))];rw[if_neg (by simp)];show jC l.length ((uvI x++(l.flatMap uvI++r)).drop ((uvI x).length:Int).toNat) ((a:Int)+((uvI x).length:Int)) (acc++[x])=_;rw[χ,kD,show((a:Int)+((uvI x).length:Int))=((a+(uvI x).length:Nat):Int) by omega,aHw r l _ _ (fun y hy=>h y (by simp[hy])),π,κ,ei];rfl
theorem mK(h:∀x∈l,I64 x)(hl:l.length<=1000000)(r:Str):aD (cC l++r)=(l,((cC l).length:Int),0):=by unfold aD cC;have:=yQ uvI l (fun x hx=>(cX (h x hx)).1);rw[π,aE8 hl _ (by rw[κ];omega),if_neg (by simp)];show jC (l.length:Int).toNat ((uvI (l.length:Int)++(l.flatMap uvI++r)).drop ((uvI (l.length:Int)).length:Int).toNat) ((uvI (l.length:Int)).length:Int) []=_;rw[χ,χ,kD,aHw r l _ _ h,cn,κ]
theorem aOb(h:s.length<=1000000)(r:Str):bD (gL s++r)=(s,((gL s).length:Int),0):=by unfold bD gL;rw[π,aE8 h _ (by rw[κ];omega),if_neg (by simp)];show(((uvI (s.length:Int)++(s++r)).drop ((uvI (s.length:Int)).length:Int).toNat).take (s.length:Int).toNat,_,_)=_;rw[χ,χ,kD,aUz,κ];refine congrArg (fun x=>(s,x,(0:Int))) ?_;show((uvI (s.length:Int)).length:Int)+(s.length:Int)=_;omega
theorem aUx(h:s.length<=1000000):1<=(gL s).length:=by unfold gL;have:=(cX (cW h)).1;rw[κ];omega
theorem aHn(r:Str):∀(l:List Str) (a:Nat) (acc:List Str),(∀x∈l,x.length<=1000000)->iW l.length (l.flatMap gL++r) (a:Int) acc=(acc++l,((a+(l.flatMap gL).length:Nat):Int),0)
 |[],a,acc,_=>by rw[υ];rfl
 |x::l,a,acc,h=>by rw[b6,π,τ,iW,aOb (h x (by simp))];rw[if_neg (by simp)];show iW l.length ((gL x++(l.flatMap gL++r)).drop ((gL x).length:Int).toNat) ((a:Int)+((gL x).length:Int)) (acc++[x])=_;rw[χ,kD,show((a:Int)+((gL x).length:Int))=((a+(gL x).length:Nat):Int) by omega,aHn r l _ _ (fun y hy=>h y (by simp[hy])),π,κ,ei];rfl
theorem aA3{l:List Str}(h:∀x∈l,x.length<=1000000)(hl:l.length<=1000000)(r:Str):cO (pC l++r)=(l,((pC l).length:Int),0):=by unfold cO pC;have:=yQ gL l (fun x hx=>aUx (h x hx));rw[π,aE8 hl _ (by rw[κ];omega),if_neg (by simp)];show iW (l.length:Int).toNat ((uvI (l.length:Int)++(l.flatMap gL++r)).drop ((uvI (l.length:Int)).length:Int).toNat) ((uvI (l.length:Int)).length:Int) []=_;rw[χ,χ,kD,aHn r l _ _ h,cn,κ]
theorem aTe(h:∀x∈l,I64 x)(hl:l.length<=1000000)(k:Int)(c:Nat)(h1:l.length=c)(h2:l.getD 0 0=k):hd (cC l) k c false=some (l,[]):=by unfold hd;have:=mK h hl [];rw[υ]at this;rw[this,if_pos ⟨rfl,h1,h2⟩,if_neg (by decide),if_pos rfl]
theorem aQ8{p:List Str}(h:∀x∈l,I64 x)(hl:l.length<=1000000)(hp:∀x∈p,x.length<=1000000)(hpl:p.length<=1000000)(k:Int)(c:Nat)(h1:l.length=c)(h2:l.getD 0 0=k):hd (cC l++pC p) k c true=some (l,p):=by
 unfold hd;rw[mK h hl (pC p),if_pos ⟨rfl,h1,h2⟩,if_pos rfl];have e:(cC l++pC p).drop ((l,((cC l).length:Int),(0:Int)).2.1).toNat=pC p:=by show(cC l++pC p).drop ((cC l).length:Int).toNat=pC p;rw[χ,kD]
 rw[e];have:=aA3 hp hpl [];rw[υ]at this;rw[this,if_pos ⟨rfl,by simp only[κ];omega⟩]
abbrev Rd:=Int×(Int×TO)
variable{r:Rd}
abbrev Pt:=Int×(Bool×(Str×Str))
theorem bBh(N m:Nat):fQ N (m+1)=fT N (fQ N m):=rfl
theorem bAf(N m:Nat):dS N (m+1)=dP N (dS N m):=rfl
theorem gG{l:List α}(h:i<l.length):l.drop i=l[i]::l.drop (i+1):=fb h
theorem tN(hN:20<=N)(hn:I64 n):cL N n=some (aG (uvI n)):=aXv N n hN hn
theorem aH2{N:Nat}(hN:20<=N)(l:List Int)(h:∀x∈l,I64 x)(hl:l.length<=100000):∀(k i m:Nat) (acc:List Int),i+k=l.length->k<m->acc.length<=10+10*i->fQ N m l ((l.length:Nat):Int) (i:Int) acc=some (acc++aG ((l.drop i).flatMap uvI))
 |k,i,0,acc,_,h,_=>by omega
 |0,i,m+1,acc,hi,_,_=>by
  rw[bBh];unfold fT;rw[aK (decide_eq_false (by omega)),aC,cm (by omega)];exact congrArg some (υ acc).symm
 |k+1,i,m+1,acc,hi,hm,ha=>by
  have hlt:i<l.length:=by omega
  have hx:=h _ (dz hlt);have hu:=cX hx;rw[bBh];unfold fT;rw[aI (decide_eq_true (by omega)),hU (μ hlt),tN hN hx,aB,aC,aC,aL (by rw[aJ];omega),bO (by omega) (by omega),aC,show((i:Int)+1)=((i+1:Nat):Int) by omega,aH2 hN l h hl k (i+1) m _ (by omega) (by omega) (by rw[κ,aJ];omega),gG hlt,b6,fE,π]
theorem qB(hN:20<=N)(l:List Int)(h:∀x∈l,I64 x)(hl:l.length<N)(hb:l.length<=100000):bW N l=some (cC l):=by unfold bW rO lK;rw[tN hN (cW (by omega)),aB,aC];have hu:=cX (cW (show l.length<=1000000 by omega));have:=aH2 hN l h hb l.length 0 N (aG (uvI (l.length:Int))) (by omega) hl (by rw[aJ];omega);rw[show(((0:Nat):Int))=0 from rfl]at this;rw[this,aB,aC,aB,aC,de,<-fE,bS];rfl
theorem aSf(hN:20<=N)(s:Str)(hs:s.length<=1000000):jJ N s=some (aG (gL s)):=by unfold jJ;have hu:=cX (cW hs);rw[tN hN (cW hs),aB,aC,aL (by rw[aJ,aJ];omega),aC,<-fE];rfl
theorem aIh{N:Nat}(hN:20<=N)(l:List Str)(h:∀x∈l,x.length<=100000)(hl:l.length<=100000):∀(k i m:Nat) (acc:List Int),i+k=l.length->k<m->acc.length<=10+200000*i->dS N m l ((l.length:Nat):Int) (i:Int) acc=some (acc++aG ((l.drop i).flatMap gL))
 |k,i,0,acc,_,h,_=>by omega
 |0,i,m+1,acc,hi,_,_=>by
  rw[bAf];unfold dP;rw[aK (decide_eq_false (by omega)),aC,cm (by omega)];exact congrArg some (υ acc).symm
 |k+1,i,m+1,acc,hi,hm,ha=>by
  have hlt:i<l.length:=by omega
  have hx:=h _ (dz hlt);have hu:(gL l[i]).length<=200000:=by unfold gL;have:=(cX (cW (show(l[i]).length<=1000000 by omega))).2;rw[κ];omega
  rw[bAf];unfold dP;rw[aI (decide_eq_true (by omega)),hU (μ hlt),aSf hN _ (by omega),aB,aC,aC,aL (by rw[aJ];omega),bO (by omega) (by omega),aC,show((i:Int)+1)=((i+1:Nat):Int) by omega,aIh hN l h hl k (i+1) m _ (by omega) (by omega) (by rw[κ,aJ];omega),gG hlt,b6,fE,π]
theorem aEf(hN:20<=N)(l:List Str)(h:∀x∈l,x.length<=100000)(hl:l.length<N)(hb:l.length<=100000):gH N l=some (aG (pC l)):=by unfold gH iT;rw[tN hN (cW (by omega)),aB,aC];have hu:=cX (cW (show l.length<=1000000 by omega));have:=aIh hN l h hb l.length 0 N (aG (uvI (l.length:Int))) (by omega) hl (by rw[aJ];omega);rw[show(((0:Nat):Int))=0 from rfl]at this;rw[this,aB,aC,de,<-fE];rfl
def rl(r:Rd):List Int:=[1,r.1,r.2.1,r.2.2.1,r.2.2.2.1,r.2.2.2.2.1,r.2.2.2.2.2]
def aG1(r:Rd):Str:=cC (rl r)
def okR(r:Rd):Prop:=∀x∈rl r,I64 x
theorem aN1(hN:20<=N)(h:okR r):bG N r=some (aG1 r):=by unfold bG;rw[show[1,r.1,r.2.1,r.2.2.1,r.2.2.2.1,r.2.2.2.2.1,r.2.2.2.2.2]=rl r from rfl,qB hN _ h (by show 7<N;omega) (by show 7<=_;omega),aB];rfl
theorem kQ{β:Type}{l:List α}{d:α}{f:α->Option β}(h:i<l.length):bE l (i:Int) f=f (l.getD i d):=by rw[hU (μ h),bc,μ h];rfl
def grd(s:Str):Rd×Int:=
 match hd s 1 7 false with
 |none=>((0,(0,(0,(0,(0,0))))),11)
 |some v=>((v.1.getD 1 0,(v.1.getD 2 0,(v.1.getD 3 0,(v.1.getD 4 0,(v.1.getD 5 0,v.1.getD 6 0))))),0)
theorem vK(s:Str)(hN:11<=N)(hs:s.length<N)(hb:s.length<=1000000):bX N s=some (grd s):=by
 unfold bX grd;rw[show(7:Int)=((7:Nat):Int)from rfl,aIv s 1 7 false hN hs hb (by omega),aB];cases h:hd s 1 7 false with
 |none=>rfl
 |some v=>
  have hl:=(aHf h).1;unfold oS;rw[nY,show(1:Int)=((1:Nat):Int)from rfl,kQ (d:=0) (by omega),show(2:Int)=((2:Nat):Int)from rfl,kQ (d:=0) (by omega),show(3:Int)=((3:Nat):Int)from rfl,kQ (d:=0) (by omega),show(4:Int)=((4:Nat):Int)from rfl,kQ (d:=0) (by omega),show(5:Int)=((5:Nat):Int)from rfl,kQ (d:=0) (by omega),show(6:Int)=((6:Nat):Int)from rfl,kQ (d:=0) (by omega)];rfl
theorem aY1(h:okR r):grd (aG1 r)=(r,0):=by unfold grd aG1;rw[aTe h (by show 7<=_;omega) 1 7 rfl rfl];rfl
def sgb(b:Bool):Int:=if b then 1 else 0
def prt(p:Pt):List Str:=[uvI p.1,uvI (sgb p.2.1),p.2.2.1,p.2.2.2]
def vl(v:Vr):List Int:=[2,v.1,v.2.1,v.2.2.1,v.2.2.2.1,v.2.2.2.2.1,v.2.2.2.2.2.1,v.2.2.2.2.2.2.1]
abbrev vp(v:Vr):List Pt:=v.2.2.2.2.2.2.2
def nU(v:Vr):Str:=cC (vl v)++pC ((vp v).flatMap prt)
def okP(l:List Pt):Prop:=∀p∈l,I64 p.1/\p.2.2.1.length<=50000/\p.2.2.2.length<=50000
def okV(v:Vr):Prop:=(∀x∈vl v,I64 x)/\(vp v).length<=1000/\okP (vp v)
theorem yE:I64 0/\I64 1:=⟨⟨by decide,by decide⟩,⟨by decide,by decide⟩⟩
theorem aPe(b:Bool):I64 (sgb b):=by cases b<;>exact⟨by decide,by decide⟩
theorem eI(l:List Pt):(l.flatMap prt).length=4*l.length:=by
 induction l with
 |nil=>rfl
 |cons x l ih=>rw[b6,κ,ih,τ];show 4+_=_;omega
theorem aJz{l:List Pt}(h:okP l):∀x∈l.flatMap prt,x.length<=50000:=fun x hx=>by
 obtain⟨p,hp,hx⟩:=List.mem_flatMap.1 hx;obtain⟨h1,h2,h3⟩:=h p hp;unfold prt at hx;simp only[br,dc,or_false]at hx;rcases hx with rfl|rfl|rfl|rfl
 ·have:=(cX h1).2;omega
 ·have:=(cX (aPe p.2.1)).2;omega
 ·exact h2
 ·exact h3
theorem uB(l:List α)(i:Nat)(h:i<l.length):l.take (i+1)=l.take i++[l[i]]:=by rw[List.take_add_one,μ h];rfl
theorem bF6(N m:Nat):gM N (m+1)=gS N (gM N m):=rfl
theorem aP9{k:Nat}:∀l:List Str,k<=1000000->(∀x∈l,x.length<=k)->(l.flatMap gL).length<=(k+10)*l.length
 |[],_,_=>ω _
 |x::l,hk,h=>by
  have h1:=aP9 l hk (fun y hy=>h y (by simp[hy]));have h2:=h x (by simp);have h3:=(cX (cW (show x.length<=1000000 by omega))).2;have h4:(gL x).length<=k+10:=by unfold gL;rw[κ];omega
  rw[b6,κ,τ,Nat.mul_succ];omega
theorem aVe:∀l:List Int,(∀x∈l,I64 x)->(l.flatMap uvI).length<=10*l.length
 |[],_=>ω _
 |x::l,h=>by have h1:=aVe l (fun y hy=>h y (by simp[hy]));have h2:=(cX (h x (by simp))).2;rw[b6,κ,τ];omega
theorem zP(h:∀x∈l,I64 x)(hb:l.length<=1000000):(cC l).length<=10*l.length+10:=by unfold cC;have:=(cX (cW hb)).2;have:=aVe l h;rw[κ];omega
theorem aK4{l:List Str}(hk:k<=1000000)(h:∀x∈l,x.length<=k)(hb:l.length<=1000000):(pC l).length<=(k+10)*l.length+10:=by unfold pC;have:=(cX (cW hb)).2;have:=aP9 l hk h;rw[κ];omega
theorem aLb{N:Nat}(hN:20<=N)(v:Vr)(hv:okV v)(hl:4*(vp v).length<N):∀(k i m:Nat),i+k=(vp v).length->k<m->gM N m (vp v) (((vp v).length:Nat):Int) (i:Int) v.1 v.2.1 v.2.2.1 v.2.2.2.1 v.2.2.2.2.1 v.2.2.2.2.2.1 v.2.2.2.2.2.2.1 (vp v) (((vp v).take i).flatMap prt)=some (nU v)
 |k,i,0,_,h=>by omega
 |0,i,m+1,hi,_=>by
  obtain⟨h1,h2,h3⟩:=hv;rw[bF6];unfold gS;rw[aK (decide_eq_false (by omega)),bf (by omega)];have e:=qB hN (vl v) h1 (by show 8<N;omega) (by show 8<=_;omega);show bd? (bW N (vl v)) _=_;have hs:=aJz h3;rw[e,aB,aC,aEf hN _ (fun x hx=>by have:=hs x hx;omega) (by rw[eI];omega) (by rw[eI];omega),aB,aC,bS];refine aL ?_;have a1:=zP h1 (by show 8<=_;omega);have a2:=aK4 (by omega) hs (by rw[eI];omega);have h9:(vl v).length=8:=rfl;rw[eI]at a2;have a3:(50000+10)*(4*(vp v).length)<=50010*4000:=js _ (by omega);omega
 |k+1,i,m+1,hi,hm=>by
  have hlt:i<(vp v).length:=by omega
  obtain⟨h1,h2,h3⟩:=hv;obtain⟨g1,g2,g3⟩:=h3 _ (dz hlt);have hlen:(((vp v).take i).flatMap prt).length<=4000:=by rw[eI,cp];omega
  have ih:=aLb hN v ⟨h1,h2,h3⟩ hl k (i+1) m (by omega) (by omega);rw[uB _ _ hlt,List.flatMap_append]at ih;have e:([(vp v)[i]]:List Pt).flatMap prt=[uvI (vp v)[i].1,uvI (sgb (vp v)[i].2.1),(vp v)[i].2.2.1,(vp v)[i].2.2.2]:=by rw[b6,jh,υ];rfl
  rw[e]at ih;rw[bF6];unfold gS;rw[aI (decide_eq_true (by omega)),hU (μ hlt)];generalize(vp v)[i]=p at*;obtain⟨st,ng,a,b⟩:=p;dsimp only at*;cases ng with
  |true=>
   rw[aS,aC,aB];dsimp only;rw[tN hN g1,aB,aC,tN hN yE.2,aB,aC,aC,bS,bS,aL (by simp only[τ,ba];omega),bO (by omega) (by omega),aC];exact ih
  |false=>
   rw[aR,aC,aB];dsimp only;rw[tN hN g1,aB,aC,tN hN yE.1,aB,aC,aC,bS,bS,aL (by simp only[τ,ba];omega),bO (by omega) (by omega),aC];exact ih
theorem aPc(hN:20<=N)(h:okV v)(hl:4*(vp v).length<N):fZ N v=some (nU v):=by unfold fZ;exact aLb hN v h hl (vp v).length 0 N (by omega) (by omega)
def one(s:Str):Option Int:=if(gi s).2.2=0/\(gi s).2.1=(s.length:Int)then some (gi s).1 else none
theorem aU7(hN:11<=N)(s:Str):nJ N s=some (oS (one s)):=by
 unfold nJ one;rw[aBa hN,aB];by_cases e:(gi s).2.2=0
 ·rw[pS e,aS];by_cases hh:(gi s).2.1=(s.length:Int)
  ·rw[sH N (pS hh),aB,nY,aGw,if_pos ⟨e,hh⟩];rfl
  ·rw[jY N (pZ hh),aB,lE,nO,vY,if_neg (fun q=>hh q.2)];rfl
 ·rw[pZ e,aR,jY N rfl,aB,lE,nO,vY,if_neg (fun q=>e q.1)];rfl
def pts:List Str->List Pt->Option (List Pt)
 |a::b::c::d::r,acc=>match one a,one b with
  |some st,some ng=>if ng=0\/ng=1 then pts r (acc++[(st,(ng==1,(c,d)))])else none
  |_,_=>none
 |_,acc=>some acc
def vz:Vr:=(0,(0,(0,(0,(0,(0,(0,[])))))))
def vD(l:List Int)(p:List Pt):Vr:=(l.getD 1 0,(l.getD 2 0,(l.getD 3 0,(l.getD 4 0,(l.getD 5 0,(l.getD 6 0,(l.getD 7 0,p)))))))
def gvr(s:Str):Vr×Int:=
 match hd s 2 8 true with
 |none=>(vz,11)
 | some v=>if v.2.length % 4=0 then
   match pts v.2 []with
   |none=>(vz,11)
   |some l=>(vD v.1 l,0)
  else(vz,11)
def fl(v:Vr×Int):Int×(Int×(Int×(Int×(Int×(Int×(Int×(List Pt×Int))))))):=(v.1.1,(v.1.2.1,(v.1.2.2.1,(v.1.2.2.2.1,(v.1.2.2.2.2.1,(v.1.2.2.2.2.2.1,(v.1.2.2.2.2.2.2.1,(v.1.2.2.2.2.2.2.2,v.2))))))))
def pt'(l:List Int):Option (List Pt)->Vr×Int
 |none=>(vz,11)
 |some p=>(vD l p,0)
theorem bFf(N m:Nat):bZ N (m+1)=dZ N (bZ N m):=rfl
theorem kC(N:Nat)(e:Int):aP N e=some 11:=rfl
theorem aK6(N:Nat)(e:Int):eZ N e=some e:=rfl
theorem aLj{N:Nat}(hN:11<=N)(v:List Int)(hv:v.length=8):∀(k m:Nat) (l:List Str) (acc:List Pt),l.length=4*k->k<m->acc.length+k<=1000000->
  bZ N m v l 0 0 0 0 0 0 0 0 [] acc=some (fl (pt' v (pts l acc)))
 |k,0,l,acc,_,h,_=>by omega
 |0,m+1,l,acc,hl,_,_=>by
  have:l=[]:=ft.1 (by omega);subst this;rw[bFf];unfold dZ;rw[aK (by rfl),show(1:Int)=((1:Nat):Int)from rfl,kQ (d:=0) (by omega),show(2:Int)=((2:Nat):Int)from rfl,kQ (d:=0) (by omega),show(3:Int)=((3:Nat):Int)from rfl,kQ (d:=0) (by omega),show(4:Int)=((4:Nat):Int)from rfl,kQ (d:=0) (by omega),show(5:Int)=((5:Nat):Int)from rfl,kQ (d:=0) (by omega),show(6:Int)=((6:Nat):Int)from rfl,kQ (d:=0) (by omega),show(7:Int)=((7:Nat):Int)from rfl,kQ (d:=0) (by omega)];simp only[bG8,aK6,aB,aC];rfl
 |k+1,m+1,l,acc,hl,hm,hb=>by
  obtain⟨a,b,c,d,r,rfl⟩:∃a b c d r,l=a::b::c::d::r:=by
   match l,hl with
   |a::b::c::d::r,_=>exact⟨a,b,c,d,r,rfl⟩
   |[],h=>simp at h
   |[_],h=>simp at h;omega
   |[_,_],h=>simp at h;omega
   |[_,_,_],h=>simp at h;omega
  have hr:r.length=4*k:=by simp only[τ]at hl;omega
  have e4:c9 ((a::b::c::d::r).length-4) (dj 4 (a::b::c::d::r))=r:=by show r.take (r.length+4-4)=r;rw[jv,List.take_length]
  have fin:∀(st ng:Int) (x:Bool),x=(ng==1)->(gd? ((((acc.length+[(st,(x,(c,d)))].length)*48)<=140737488355328)) (gd? ((4<=(a::b::c::d::r).length)) (gd? (((a::b::c::d::r).length<=(a::b::c::d::r).length)) (gl? (([]:List Pt).length) ([]:List Pt) (gl? ((acc++[(st,(x,(c,d)))]).length) ((acc++[(st,(x,(c,d)))])) (bZ N m v (c9 ((a::b::c::d::r).length-4) (dj 4 (a::b::c::d::r))) 0 0 0 0 0 0 0 0 [] (acc++[(st,(x,(c,d)))])))))))=bZ N m v r 0 0 0 0 0 0 0 0 [] (acc++[(st,(ng==1,(c,d)))]):=fun st ng x hx=>by subst hx;rw[aL (by simp only[τ,ba];omega),aL (by simp only[τ];omega),aL (ω _),aC,aC,e4]
  rw[bFf];unfold dZ;rw[aI (decide_eq_true (by simp only[τ];omega)),sA (x:=a) (by decide) rfl,sA (x:=b) (by decide) rfl,aU7 hN,aB,aU7 hN,pts];cases ha:one a with
  |none=>
   unfold oS;rw[lE,kC,aB,aC];rfl
  |some st=>
   cases hb2:one b with
   |none=>
    unfold oS;rw[nY,aB,lE,kC,aB,aC];rfl
   |some ng=>
    unfold oS;rw[nY,aB,nY];have ih:=aLj hN v hv k m r (acc++[(st,(ng==1,(c,d)))]) hr (by omega) (by simp only[κ,τ,ba];omega);by_cases h0:ng=0
    ·rw[pS h0,aS,sH N rfl,aB,nY,aC,aC,aGw];dsimp only;rw[sA (x:=c) (by decide) rfl,sA (x:=d) (by decide) rfl,aC];refine(fin st ng _ rfl).trans (ih.trans ?_);simp only[h0,true_or,if_true]
    ·rw[pZ h0,aR];by_cases h1:ng=1
     ·rw[sH N (pS h1),aB,nY,aC,aC,aGw];dsimp only;rw[sA (x:=c) (by decide) rfl,sA (x:=d) (by decide) rfl,aC];refine(fin st ng _ rfl).trans (ih.trans ?_);simp only[if_pos (Or.inr h1:ng=0\/ng=1)]
     ·rw[jY N (pZ h1),aB,lE,kC,aB,aC,nO,vY];simp only[h0,h1,or_self,if_false];rfl
theorem vN(s:Str)(hN:11<=N)(hs:s.length+1<N)(hb:s.length<=100000):dN N s=some (fl (gvr s)):=by
 unfold dN gvr;rw[show(8:Int)=((8:Nat):Int)from rfl,aIv s 2 8 true hN (by omega) (by omega) (by omega),aB];cases h:hd s 2 8 true with
 |none=>rfl
 |some v=>
  obtain⟨hl,_,hp,_⟩:=aHf h;unfold oS;rw[nY];dsimp only;by_cases h4:v.2.length%4=0
  ·have:bx (v.2.length:Int) 4=0:=by rw[show(4:Int)=((4:Nat):Int)from rfl,<-gb,h4];rfl
   rw[sH N (pS this),aB,nY,aLj hN v.1 hl (v.2.length/4) N v.2 [] (by omega) (by omega) (by simp;omega),if_pos h4];cases pts v.2 []<;>rfl
  ·have:bx (v.2.length:Int) 4≠0:=by rw[show(4:Int)=((4:Nat):Int)from rfl,<-gb];omega
   rw[jY N (pZ this),aB,lE,kC,aB,if_neg h4];rfl
theorem aP8(h:I64 n):one (uvI n)=some n:=by unfold one;have:=aKb h [];rw[υ]at this;rw[this,if_pos ⟨rfl,rfl⟩]
theorem aQq:∀(l acc:List Pt),(∀p∈l,I64 p.1)->pts (l.flatMap prt) acc=some (acc++l)
 |[],acc,_=>by rw[υ];rfl
 |p::l,acc,h=>by
  rw[b6];show pts (uvI p.1::uvI (sgb p.2.1)::p.2.2.1::p.2.2.2::l.flatMap prt) acc=_;rw[pts,aP8 (h p (by simp)),aP8 (aPe _)];have e:((p.1,(sgb p.2.1==1,(p.2.2.1,p.2.2.2))):Pt)=p:=by obtain⟨st,ng,a,b⟩:=p;cases ng<;>rfl
  have h01:sgb p.2.1=0\/sgb p.2.1=1:=by cases p.2.1<;>simp[sgb]
  simp only[if_pos h01];rw[e,aQq l _ (fun q hq=>h q (by simp[hq])),π];rfl
theorem aYe(h:okV v):gvr (nU v)=(v,0):=by obtain⟨h1,h2,h3⟩:=h;unfold gvr nU;have hp:=aJz h3;rw[aQ8 h1 (by show 8<=_;omega) (fun x hx=>by have:=hp x hx;omega) (by rw[eI];omega) 2 8 rfl rfl];simp only;rw[if_pos (by rw[eI];omega),aQq _ [] (fun p hp=>(h3 p hp).1)];rfl
theorem uG{s a b:List α}(h:s=a++b):s.drop a.length=b:=by rw[h];exact kD a b
theorem aPw:∀(s:Str) (k z:Nat),k<=9->z<128^k->(giN k z s).2.2=0->∃y r,s=uvarint y++r/\(0<y\/k=0)/\z+y*128^k<18446744073709551616/\giN k z s=(unz (z+y*128^k),((k+(uvarint y).length:Nat):Int),0)
 |[],k,z,_,_,h=>by cases h
 |c::s,k,z,hk,hz,h=>by
  rw[giN]at h|-;have hcl:=c.toNat_lt;by_cases hb:(k=9/\1<c.toNat)\/(0<k/\c.toNat=0)
  ·rw[if_pos hb]at h;cases h
  ·rw[if_neg hb]at h|-;obtain⟨_,h2,h3⟩:=aNq z k c.toNat hz hk (by omega) (by omega);by_cases hh:c.toNat<128
   ·rw[if_pos hh];rw[Nat.mod_eq_of_lt hh]at h2|-;have e:c.toNat.toUInt8=c:=UInt8.ofNat_toNat;refine⟨c.toNat,s,?_,by omega,h2,?_⟩
    ·rw[uvarint_small hh,e];rfl
    ·rw[uvarint_small hh];rfl
   ·rw[if_neg hh]at h|-;obtain⟨y,r,g1,g2,g3,g4⟩:=aPw s (k+1) _ (by omega) (h3 (by omega)) h;have hy:0<y:=by omega
    have e:z+c.toNat%128*128^k+y*128^(k+1)=z+(c.toNat%128+128*y)*128^k:=by
     have h1:y*128^(k+1)=(128*y)*128^k:=by rw[Nat.pow_succ,Nat.mul_comm (128^k) 128,<-Nat.mul_assoc,Nat.mul_comm y 128]
     rw[h1,ei,<-cf]
    have ec:(((c.toNat%128+128*y)%128+128).toUInt8)=c:=by
     have:(c.toNat%128+128*y)%128+128=c.toNat:=by omega
     rw[this];exact UInt8.ofNat_toNat
    have hu:uvarint (c.toNat%128+128*y)=c::uvarint y:=by rw[uvarint_big (x:=c.toNat%128+128*y) (by omega),ec,show(c.toNat%128+128*y)/128=y by omega]
    refine⟨c.toNat%128+128*y,r,?_,.inl (by omega),by rw[<-e];exact g3,?_⟩
    ·rw[hu,gn,<-g1]
    ·rw[g4,e,hu,τ,show k+1+(uvarint y).length=k+((uvarint y).length+1) by omega]
theorem aW9(z:Nat):zigzag (unz z)=z:=by unfold unz zigzag;split<;>split<;>omega
theorem aO9(h:(gi s).2.2=0):∃r,s=uvI (gi s).1++r/\(gi s).2.1=((uvI (gi s).1).length:Int):=by unfold gi at*;obtain⟨y,r,h1,_,_,h4⟩:=aPw s 0 0 (by omega) (by decide) h;rw[h4];unfold uvI;dsimp only;rw[az,Nat.pow_zero,cu,aW9,az];exact⟨r,h1,rfl⟩
theorem aEy(h:(bB s).2.2=0):∃r,s=uvI (bB s).1++r/\(bB s).2.1=((uvI (bB s).1).length:Int):=by
 unfold bB at*;by_cases h1:(gi s).2.2≠0
 ·rw[if_pos h1]at h;exact absurd h h1
 ·rw[if_neg h1]at h|-;by_cases h2:(gi s).1<0
  ·rw[if_pos h2]at h;cases h
  ·rw[if_neg h2]at h|-;by_cases h3:(gi s).1>(s.length:Int)-(gi s).2.1
   ·rw[if_pos h3]at h;cases h
   ·rw[if_neg h3];exact aO9 (by omega)
theorem aH1:∀(n:Nat) (r:Str) (a:Nat) (acc:List Int),(jC n r (a:Int) acc).2.2=0->∃l t,(jC n r (a:Int) acc).1=acc++l/\l.length=n/\r=l.flatMap uvI++t/\(jC n r (a:Int) acc).2.1=((a+(l.flatMap uvI).length:Nat):Int)
 |0,r,a,acc,h=>⟨[],r,by rw[υ];rfl,rfl,rfl,rfl⟩
 |n+1,r,a,acc,h=>by
  rw[jC]at h|-;by_cases he:(gi r).2.2≠0
  ·rw[if_pos he]at h;exact absurd h he
  ·rw[if_neg he]at h|-;obtain⟨q,h1,h2⟩:=aO9 (show(gi r).2.2=0 by omega);have hd:r.drop (gi r).2.1.toNat=q:=by rw[h2,χ];exact uG h1
   rw[hd,h2,show((a:Int)+((uvI (gi r).1).length:Int))=((a+(uvI (gi r).1).length:Nat):Int) by omega]at h|-;obtain⟨l,t,g1,g2,g3,g4⟩:=aH1 n q _ _ h;refine⟨(gi r).1::l,t,by rw[g1,π];rfl,by rw[τ,g2],?_,?_⟩
   ·rw[b6,π,<-g3];exact h1
   ·rw[g4,b6,κ,ei]
theorem aIk(h:(aD s).2.2=0):∃t,s=cC (aD s).1++t/\(aD s).2.1=((cC (aD s).1).length:Int):=by
 unfold aD at*;by_cases h1:(bB s).2.2≠0
 ·rw[if_pos h1]at h;exact absurd h h1
 ·rw[if_neg h1]at h|-;obtain⟨r,g1,g2⟩:=aEy (show(bB s).2.2=0 by omega);rcases jO s with⟨_,n,u,k1,k2,k3⟩|⟨_,_,k⟩
  ·have e1:(bB s).1=(n:Int):=by rw[k1]
   have hd:s.drop (bB s).2.1.toNat=r:=by rw[g2,χ];exact uG g1
   rw[hd,g2,e1,χ]at h|-;obtain⟨l,t,j1,j2,j3,j4⟩:=aH1 n r _ _ h;rw[cn]at j1;refine⟨t,?_,?_⟩
   ·rw[j1];unfold cC;rw[j2,<-e1,π,<-j3];exact g1
   ·rw[j4,j1];unfold cC;rw[j2,κ]
  ·omega
theorem aOt(h:(bD s).2.2=0):∃r,s=gL (bD s).1++r/\(bD s).2.1=((gL (bD s).1).length:Int):=by
 unfold bD at*;by_cases h1:(bB s).2.2≠0
 ·rw[if_pos h1]at h;exact absurd h h1
 ·rw[if_neg h1];obtain⟨r,g1,g2⟩:=aEy (show(bB s).2.2=0 by omega);rcases jO s with⟨_,n,u,k1,k2,k3⟩|⟨_,_,k⟩
  ·have e1:(bB s).1=(n:Int):=by rw[k1]
   have hd:s.drop (bB s).2.1.toNat=r:=by rw[g2,χ];exact uG g1
   have hl:s.length=(uvI (n:Int)).length+r.length:=by have:=congrArg List.length g1;rwa[κ,e1]at this
   have hu:u=(uvI (n:Int)).length:=by
    have:(bB s).2.1=(u:Int):=by rw[k1]
    rw[e1]at g2;omega
   rw[hd,e1,χ];have ln:(r.take n).length=n:=by rw[cp];omega
   refine⟨r.drop n,?_,?_⟩
   ·dsimp only;unfold gL;rw[ln,<-e1,π,List.take_append_drop];exact g1
   ·dsimp only;unfold gL;rw[ln,g2,e1,κ,ln];omega
  ·omega
theorem aHz:∀(n:Nat) (r:Str) (a:Nat) (acc:List Str),(iW n r (a:Int) acc).2.2=0->∃l t,(iW n r (a:Int) acc).1=acc++l/\l.length=n/\r=l.flatMap gL++t/\(iW n r (a:Int) acc).2.1=((a+(l.flatMap gL).length:Nat):Int)
 |0,r,a,acc,h=>⟨[],r,by rw[υ];rfl,rfl,rfl,rfl⟩
 |n+1,r,a,acc,h=>by
  rw[iW]at h|-;by_cases he:(bD r).2.2≠0
  ·rw[if_pos he]at h;exact absurd h he
  ·rw[if_neg he]at h|-;obtain⟨q,h1,h2⟩:=aOt (show(bD r).2.2=0 by omega);have hd:r.drop (bD r).2.1.toNat=q:=by rw[h2,χ];exact uG h1
   rw[hd,h2,show((a:Int)+((gL (bD r).1).length:Int))=((a+(gL (bD r).1).length:Nat):Int) by omega]at h|-;obtain⟨l,t,g1,g2,g3,g4⟩:=aHz n q _ _ h;refine⟨(bD r).1::l,t,by rw[g1,π];rfl,by rw[τ,g2],?_,?_⟩
   ·rw[b6,π,<-g3];exact h1
   ·rw[g4,b6,κ,ei]
theorem aR0(h:(cO s).2.2=0):∃t,s=pC (cO s).1++t/\(cO s).2.1=((pC (cO s).1).length:Int):=by
 unfold cO at*;by_cases h1:(bB s).2.2≠0
 ·rw[if_pos h1]at h;exact absurd h h1
 ·rw[if_neg h1]at h|-;obtain⟨r,g1,g2⟩:=aEy (show(bB s).2.2=0 by omega);rcases jO s with⟨_,n,u,k1,k2,k3⟩|⟨_,_,k⟩
  ·have e1:(bB s).1=(n:Int):=by rw[k1]
   have hd:s.drop (bB s).2.1.toNat=r:=by rw[g2,χ];exact uG g1
   rw[hd,g2,e1,χ]at h|-;obtain⟨l,t,j1,j2,j3,j4⟩:=aHz n r _ _ h;rw[cn]at j1;refine⟨t,?_,?_⟩
   ·rw[j1];unfold pC;rw[j2,<-e1,π,<-j3];exact g1
   ·rw[j4,j1];unfold pC;rw[j2,κ]
  ·omega
theorem aOl{k:Int}{c:Nat}{more:Bool}{v:List Int×List Str}(h:hd s k c more=some v):v.1.length=c/\v.1.getD 0 0=k/\s=cC v.1++(if more then pC v.2 else[]):=by
 unfold hd at h;split at h
 ·rename_i hh;obtain⟨e,hl,hk⟩:=hh;obtain⟨t,g1,g2⟩:=aIk e;have hdr:s.drop (aD s).2.1.toNat=t:=by rw[g2,χ];exact uG g1
  have hsl:s.length=(cC (aD s).1).length+t.length:=by have:=congrArg List.length g1;rwa[κ]at this
  split at h
  ·rename_i hm;split at h
   ·rename_i hh;cases h;rw[hdr]at hh|-;obtain⟨t',j1,j2⟩:=aR0 hh.1;have:t'=[]:=by apply fo;have:=congrArg List.length j1;rw[κ]at this;have:=hh.2;omega
    subst this;rw[υ]at j1;refine⟨hl,hk,?_⟩;rw[hm,if_pos rfl];dsimp only;rw[<-j1];exact g1
   ·cases h
  ·rename_i hm;split at h
   ·rename_i hh;cases h;have:t=[]:=by apply fo;omega
    subst this;refine⟨hl,hk,?_⟩;rw[if_neg hm];exact g1
   ·cases h
 ·cases h
theorem aZ0(h:l.length=7):l=[l.getD 0 0,l.getD 1 0,l.getD 2 0,l.getD 3 0,l.getD 4 0,l.getD 5 0,l.getD 6 0]:=by
 match l,h with
 |[a,b,c,d,e,f,g],_=>rfl
theorem bBe(h:l.length=8):l=[l.getD 0 0,l.getD 1 0,l.getD 2 0,l.getD 3 0,l.getD 4 0,l.getD 5 0,l.getD 6 0,l.getD 7 0]:=by
 match l,h with
 |[a,b,c,d,e,f,g,i],_=>rfl
theorem bAd(h:l.length=6):l=[l.getD 0 0,l.getD 1 0,l.getD 2 0,l.getD 3 0,l.getD 4 0,l.getD 5 0]:=by
 match l,h with
 |[a,b,c,d,e,f],_=>rfl
theorem aJf(h:(grd s).2=0):s=aG1 (grd s).1/\okR (grd s).1:=by
 unfold grd at*;cases hh:hd s 1 7 false with
 |none=>rw[hh]at h;cases h
 |some v=>
  obtain⟨h1,h2,h3⟩:=aOl hh;have hI:=(aHf hh).2.1;dsimp only;have e:v.1=rl ((v.1.getD 1 0,(v.1.getD 2 0,(v.1.getD 3 0,(v.1.getD 4 0,(v.1.getD 5 0,v.1.getD 6 0)))))):=by have:=aZ0 h1;rw[h2]at this;exact this
  refine⟨?_,?_⟩
  ·unfold aG1;rw[<-e,h3];simp
  ·unfold okR;rw[<-e];exact hI
theorem bEu(s:Str):(grd s).2=0\/grd s=((0,(0,(0,(0,(0,0))))),11):=by
 unfold grd;cases hd s 1 7 false with
 |none=>exact .inr rfl
 |some v=>exact .inl rfl
theorem aP5(h:one s=some n):s=uvI n/\I64 n:=by
 unfold one at h;split at h
 ·rename_i hh;cases h;obtain⟨r,g1,g2⟩:=aO9 hh.1;have:r=[]:=by apply fo;have:=congrArg List.length g1;rw[κ]at this;have:=hh.2;omega
  subst this;rw[υ]at g1;rcases vE s with⟨_,u,_,_,_,_,h5⟩|⟨_,_,h3⟩
  ·exact⟨g1,h5⟩
  ·have:=hh.1;omega
 ·cases h
theorem aQn:∀(k:Nat) (p:List Str) (acc L:List Pt),p.length=4*k->pts p acc=some L->∃M,L=acc++M/\p=M.flatMap prt/\(∀q∈M,I64 q.1)/\∀q∈M,q.2.2.1∈p/\q.2.2.2∈p
 |0,p,acc,L,hp,h=>by
  have:p=[]:=ft.1 (by omega);subst this;cases h;exact⟨[],by simp,rfl,⟨fun q hq=>(dc hq).elim,fun q hq=>(dc hq).elim⟩⟩
 |k+1,p,acc,L,hp,h=>by
  obtain⟨a,b,c,d,r,rfl⟩:∃a b c d r,p=a::b::c::d::r:=by
   match p,hp with
   |a::b::c::d::r,_=>exact⟨a,b,c,d,r,rfl⟩
   |[],h=>simp at h
   |[_],h=>simp at h;omega
   |[_,_],h=>simp at h;omega
   |[_,_,_],h=>simp at h;omega
  have hr:r.length=4*k:=by simp only[τ]at hp;omega
  rw[pts]at h;cases ha:one a with
  |none=>rw[ha]at h;cases h
  |some st=>
   cases hb:one b with
   |none=>rw[ha,hb]at h;cases h
   |some ng=>
    rw[ha,hb]at h;dsimp only at h;split at h
    ·rename_i h01;obtain⟨M,g1,g2,g3,g4⟩:=aQn k r _ L hr h;obtain⟨ea,ia⟩:=aP5 ha;obtain⟨eb,ib⟩:=aP5 hb;refine⟨(st,(ng==1,(c,d)))::M,by rw[g1,π];rfl,?_,?_,?_⟩
     ·rw[b6,<-g2];have:sgb (ng==1)=ng:=by rcases h01 with rfl|rfl<;>rfl
      show _=uvI st::uvI (sgb (ng==1))::c::d::r;rw[this,ea,eb]
     ·intro q hq;rcases br.1 hq with rfl|hq
      ·exact ia
      ·exact g3 q hq
     ·intro q hq;rcases br.1 hq with rfl|hq
      ·exact⟨by simp,by simp⟩
      ·have:=g4 q hq;exact⟨by simp[this.1],by simp[this.2]⟩
    ·cases h
theorem bFp(s:Str):(gvr s).2=0\/gvr s=(vz,11):=by
 unfold gvr;cases hd s 2 8 true with
 |none=>exact .inr rfl
 |some v=>
  dsimp only;split
  ·split
   ·exact .inr rfl
   ·exact .inl rfl
  ·exact .inr rfl
theorem aRc(hs:s.length<=4000)(h:(gvr s).2=0):s=nU (gvr s).1/\okV (gvr s).1:=by
 unfold gvr at*;cases hh:hd s 2 8 true with
 |none=>rw[hh]at h;cases h
 |some v=>
  rw[hh]at h;obtain⟨h1,h2,h3⟩:=aOl hh;obtain⟨_,hI,hn,hp⟩:=aHf hh;dsimp only at h|-;split at h
  ·rename_i h4;rw[if_pos h4];split at h
   ·cases h
   ·rename_i L hL;dsimp only;obtain⟨M,g1,g2,g3,g4⟩:=aQn (v.2.length/4) v.2 [] L (by omega) hL;rw[cn]at g1;subst g1;have e:vl (vD v.1 L)=v.1:=by have:=bBe h1;rw[h2]at this;exact this.symm
    have lM:4*L.length=v.2.length:=by rw[g2,eI]
    refine⟨?_,⟨by rw[e];exact hI,by show L.length<=_;omega,fun q hq=>?_⟩⟩
    ·unfold nU;rw[e,show vp (vD v.1 L)=L from rfl,<-g2];simpa using h3
    ·have hq:q∈L:=hq;have:=g4 q hq;have:=hp _ this.1;have:=hp _ (g4 q hq).2;exact⟨g3 q hq,by omega,by omega⟩
  ·cases h
abbrev Hl:=Int×Int
abbrev Rn:=Int×(Int×(List Hl×TL))
abbrev Bk:=Int×(Int×(Int×(Int×(Int×List Rn))))
variable{b:Bk}
def tbl:List Int->List Hl->List Hl
 |a::b::r,acc=>tbl r (acc++[(a,b)])
 |_,acc=>acc
def rnD(l:List Int):Rn:=(l.getD 0 0,(l.getD 1 0,(tbl (l.drop 4) [],(l.getD 2 0,l.getD 3 0))))
def aD7:List Str->List Rn->Option (List Rn)
 |[],acc=>some acc
 | p :: r,acc=>if (aD p).2.2=0/\(aD p).2.1=(p.length:Int)/\4 <= (aD p).1.length/\(aD p).1.length % 2=0 then
   aD7 r (acc++[rnD (aD p).1])else none
def bkz:Bk:=(0,(0,(0,(0,(0,[])))))
def bkD(l:List Int)(r:List Rn):Bk:=(l.getD 1 0,(l.getD 2 0,(l.getD 3 0,(l.getD 4 0,(l.getD 5 0,r)))))
def gbl(s:Str):Bk×Int:=
 match hd s 3 6 true with
 |none=>(bkz,11)
 |some v=>match aD7 v.2 []with
  |none=>(bkz,11)
  |some l=>(bkD v.1 l,0)
abbrev brs(b:Bk):List Rn:=b.2.2.2.2.2
def hlI(h:Hl):List Int:=[h.1,h.2]
def rnI(r:Rn):List Int:=[r.1,r.2.1,r.2.2.2.1,r.2.2.2.2]++r.2.2.1.flatMap hlI
def bl(b:Bk):List Int:=[3,b.1,b.2.1,b.2.2.1,b.2.2.2.1,b.2.2.2.2.1]
def nR(b:Bk):Str:=cC (bl b)++pC ((brs b).map fun r=>cC (rnI r))
def okK(b:Bk):Prop:=(∀x∈bl b,I64 x)/\(brs b).length<=1000/\∀r∈brs b,r.2.2.1.length<=1000/\∀x∈rnI r,I64 x
theorem aY2(l:List Hl):(l.flatMap hlI).length=2*l.length:=by
 induction l with
 |nil=>rfl
 |cons x l ih=>rw[b6,κ,ih,τ];show 2+_=_;omega
theorem iP(r:Rn):(rnI r).length=4+2*r.2.2.1.length:=by unfold rnI;rw[κ,aY2];rfl
theorem aQ5:∀(l acc:List Hl),tbl (l.flatMap hlI) acc=acc++l
 |[],acc=>by rw[υ];rfl
 |x::l,acc=>by rw[b6];show tbl (x.1::x.2::l.flatMap hlI) acc=_;rw[tbl,aQ5 l,π];rfl
theorem aPy:∀(k:Nat) (l:List Int) (acc:List Hl),l.length=2*k->∃M,tbl l acc=acc++M/\l=M.flatMap hlI
 |0,l,acc,h=>by
  have:l=[]:=ft.1 (by omega);subst this;exact⟨[],by simp[tbl],rfl⟩
 |k+1,l,acc,h=>by
  obtain⟨a,b,r,rfl⟩:∃a b r,l=a::b::r:=by
   match l,h with
   |a::b::r,_=>exact⟨a,b,r,rfl⟩
   |[],h=>simp at h
   |[_],h=>simp at h;omega
  obtain⟨M,g1,g2⟩:=aPy k r (acc++[(a,b)]) (by simp only[τ]at h;omega);refine⟨(a,b)::M,by rw[tbl,g1,π];rfl,?_⟩;rw[b6,<-g2];rfl
theorem aQ7(h4:4<=l.length)(h2:l.length%2=0):rnI (rnD l)=l:=by
 obtain⟨a,b,c,d,r,rfl⟩:∃a b c d r,l=a::b::c::d::r:=by
  match l,h4 with
  |a::b::c::d::r,_=>exact⟨a,b,c,d,r,rfl⟩
  |[],h=>simp at h
  |[_],h=>simp at h
  |[_,_],h=>simp at h
  |[_,_,_],h=>simp at h
 obtain⟨M,g1,g2⟩:=aPy (r.length/2) r [] (by simp only[τ]at h2;omega);show[a,b,c,d]++(tbl r []).flatMap hlI=_;rw[g1,cn,<-g2];rfl
theorem bBb(r:Rn):rnD (rnI r)=r:=by obtain⟨a,b,t,c,d⟩:=r;show(a,(b,(tbl (t.flatMap hlI) [],(c,d))))=_;rw[aQ5,cn]
theorem aLd:∀(l acc:List Rn),(∀r∈l,r.2.2.1.length<=1000/\∀x∈rnI r,I64 x)->aD7 (l.map fun r=>cC (rnI r)) acc=some (acc++l)
 |[],acc,_=>by rw[υ];rfl
 |r::l,acc,h=>by obtain⟨h1,h2⟩:=h r (by simp);rw[ct,aD7];have:=mK h2 (by rw[iP];omega) [];rw[υ]at this;rw[this,if_pos ⟨rfl,rfl,by rw[iP];omega,by rw[iP];omega⟩,bBb,aLd l _ (fun q hq=>h q (by simp[hq])),π];rfl
theorem aYv(h:okK b):gbl (nR b)=(b,0):=by
 obtain⟨h1,h2,h3⟩:=h;unfold gbl nR;have hp:∀x∈(brs b).map fun r=>cC (rnI r),x.length<=1000000:=fun x hx=>by obtain⟨r,hr,rfl⟩:=cw.1 hx;have:=zP (h3 r hr).2 (by rw[iP];have:=(h3 r hr).1;omega);rw[iP]at this;have:=(h3 r hr).1;omega
 rw[aQ8 h1 (by show 6<=_;omega) hp (by rw[θ];omega) 3 6 rfl rfl];simp only;rw[aLd _ [] h3];rfl
theorem bFx(s:Str):(gbl s).2=0\/gbl s=(bkz,11):=by
 unfold gbl;cases hd s 3 6 true with
 |none=>exact .inr rfl
 |some v=>
  dsimp only;cases aD7 v.2 []with
  |none=>exact .inr rfl
  |some l=>exact .inl rfl
theorem aMf:∀(p:List Str) (acc L:List Rn),aD7 p acc=some L->∃M,L=acc++M/\p=M.map (fun r=>cC (rnI r))/\∀r∈M,2*r.2.2.1.length<=(cC (rnI r)).length/\∀x∈rnI r,I64 x
 |[],acc,L,h=>by
  cases h;exact⟨[],by simp,rfl,fun q hq=>(dc hq).elim⟩
 |q::p,acc,L,h=>by
  rw[aD7]at h;split at h
  ·rename_i hh;obtain⟨e,h1,h2,h3⟩:=hh;obtain⟨M,g1,g2,g3⟩:=aMf p _ L h;obtain⟨t,j1,j2⟩:=aIk e;have:t=[]:=by apply fo;have:=congrArg List.length j1;rw[κ]at this;omega
   subst this;rw[υ]at j1;have hI:∀x∈(aD q).1,I64 x:=by
    rcases kA q with⟨_,u,_,_,_,h⟩|h
    ·exact h
    ·exact absurd e h
   refine⟨rnD (aD q).1::M,by rw[g1,π];rfl,?_,?_⟩
   ·rw[ct,aQ7 h2 h3,<-j1,<-g2]
   ·intro r hr;rcases br.1 hr with rfl|hr
    ·rw[aQ7 h2 h3];refine⟨?_,hI⟩;have l1:(aD q).1.length=4+2*(rnD (aD q).1).2.2.1.length:=by have:=iP (rnD (aD q).1);rwa[aQ7 h2 h3]at this
     have l2:=yQ uvI (aD q).1 fun x hx=>(cX (hI x hx)).1;unfold cC;rw[κ];omega
    ·exact g3 r hr
  ·cases h
theorem aQb(hs:s.length<=1000)(h:(gbl s).2=0):s=nR (gbl s).1/\okK (gbl s).1:=by
 unfold gbl at*;cases hh:hd s 3 6 true with
 |none=>rw[hh]at h;cases h
 |some v=>
  rw[hh]at h;obtain⟨h1,h2,h3⟩:=aOl hh;obtain⟨_,hI,hn,hp⟩:=aHf hh;dsimp only at h|-;cases hL:aD7 v.2 []with
  |none=>rw[hL]at h;cases h
  |some L=>
   obtain⟨M,g1,g2,g3⟩:=aMf v.2 [] L hL;rw[cn]at g1;subst g1;dsimp only;have e:bl (bkD v.1 L)=v.1:=by have:=bAd h1;rw[h2]at this;exact this.symm
   refine⟨?_,⟨by rw[e];exact hI,?_,fun q hq=>?_⟩⟩
   ·unfold nR;rw[e,show brs (bkD v.1 L)=L from rfl,<-g2];simpa using h3
   ·have:v.2.length=L.length:=by rw[g2,θ]
    show L.length<=_;omega
   ·have hq:q∈L:=hq;refine⟨?_,(g3 q hq).2⟩;have:=(g3 q hq).1;have:=hp (cC (rnI q)) (by rw[g2];exact cw.2 ⟨q,hq,rfl⟩);omega
theorem bGr(m:Nat):iB (m+1)=pA (iB m):=rfl
theorem aH5:∀(k z m:Nat) (a:List Int),z<128^(k+1)->z<18446744073709551616->k<m->a.length+k<1000000->iB m (z:Int) a=some (a++aG (uvarint z))
 |k,z,0,a,_,_,h,_=>by omega
 |k,z,m+1,a,hz,hz2,hm,hal=>by
  rw[bGr];unfold pA;by_cases h:128<=z
  ·obtain⟨k',rfl⟩:∃k',k=k'+1:=⟨k-1,by cases k with
    |zero=>have:128^(0+1)=128:=rfl;omega
    |succ k=>rfl⟩
   have e0:bx (z:Int) 128=((z%128:Nat):Int):=by rw[show(128:Int)=((128:Nat):Int)from rfl,<-gb]
   have e1:ι .u8 ((ι .u8 (bx (z:Int) 128))+128)=((z%128+128:Nat):Int):=by rw[e0,q8,show(((z%128%256:Nat):Int)+128)=((z%128%256+128:Nat):Int) by omega,q8];omega
   have e4:ι .u64 (dk (z:Int) 128)=((z/128:Nat):Int):=by rw[show(128:Int)=((128:Nat):Int)from rfl,<-j7,q64 (by omega) (by omega)]
   rw[e1,e4,aI (decide_eq_true (by omega)),aC,aL (by simp only[τ,ba];omega),aC];rw[aH5 k' (z/128) m (a++[((z%128+128:Nat):Int)]) (by have:128^(k'+1+1)=128^(k'+1)*128:=rfl;omega) (by omega) (by omega) (by simp only[κ,τ,ba];omega),uvarint_big h,π];refine congrArg (fun l=>some (a++l)) ?_;show _::aG (uvarint (z/128))=(((z%128+128).toUInt8.toNat:Nat):Int)::aG (uvarint (z/128));rw[show(z%128+128).toUInt8.toNat=z%128+128 by
    show(z%128+128)%256=_;omega]
  ·rw[aK (decide_eq_false (by omega)),aC,aL (by simp only[τ,ba];omega),aC,q8,uvarint_small (by omega)];refine congrArg (fun l=>some (a++l)) ?_;show[((z%256:Nat):Int)]=[((z.toUInt8.toNat:Nat):Int)];rw[show z.toUInt8.toNat=z%256 from rfl]
theorem aS8(hN:20<=N)(hn:I64 n):eG N n=some (aG (uvI n)):=by
 have hz:=aOn hn;obtain⟨h1,h2⟩:=hn;have w:∀x:Int,ι .u64 x=x%18446744073709551616:=fun x=>IntKind.wrap_u64 x;have fin:∀x:Int,x=((zigzag n:Nat):Int)->iB N x []=some (aG (uvI n)):=fun x hx=>by subst hx;rw[aH5 9 (zigzag n) N [] (by have:128^(9+1)=1180591620717411303424:=rfl;omega) hz (by omega) (by simp),cn];rfl
 unfold eG;by_cases h:n<0
 ·rw[aI (decide_eq_true h),bO (by omega) (by omega),aB];refine fin _ ?_;rw[w,w,w];unfold zigzag;rw[if_neg (by omega)];omega
 ·rw[aK (decide_eq_false h),aB];refine fin _ ?_;rw[w,w];unfold zigzag;rw[if_pos (by omega)];omega
theorem bA2(N m:Nat):kG N (m+1)=jI N (kG N m):=rfl
theorem aD9{N:Nat}(hN:20<=N)(l:List Int)(h:∀x∈l,I64 x)(hl:l.length<=100000):∀(k i m:Nat) (acc:List Int),i+k=l.length->k<m->acc.length<=10+10*i->kG N m l (i:Int) acc=some (acc++aG ((l.drop i).flatMap uvI))
 |k,i,0,acc,_,h,_=>by omega
 |0,i,m+1,acc,hi,_,_=>by
  rw[bA2];unfold jI;rw[aK (decide_eq_false (by omega)),aC,cm (by omega)];exact congrArg some (υ acc).symm
 |k+1,i,m+1,acc,hi,hm,ha=>by
  have hlt:i<l.length:=by omega
  have hx:=h _ (dz hlt);have hu:=cX hx;rw[bA2];unfold jI;rw[aI (decide_eq_true (by omega)),hU (μ hlt),aS8 hN hx,aB,aC,aC,aL (by rw[aJ];omega),bO (by omega) (by omega),aC,show((i:Int)+1)=((i+1:Nat):Int) by omega,aD9 hN l h hl k (i+1) m _ (by omega) (by omega) (by rw[κ,aJ];omega),gG hlt,b6,fE,π]
theorem yR(hN:20<=N)(l:List Int)(h:∀x∈l,I64 x)(hl:l.length<N)(hb:l.length<=100000):bP N l=some (cC l):=by unfold bP qI;rw[aS8 hN (cW (by omega)),aB,aC];have hu:=cX (cW (show l.length<=1000000 by omega));have:=aD9 hN l h hb l.length 0 N (aG (uvI (l.length:Int))) (by omega) hl (by rw[aJ];omega);rw[show(((0:Nat):Int))=0 from rfl]at this;rw[this,aB,aC,de,<-fE,bS];rfl
theorem aKn(hN:20<=N)(h:I64 n):eE N n=some (uvI n):=by unfold eE;rw[aS8 hN h,aB,aC,bS]
theorem bC5(hN:20<=N)(s:Str)(hs:s.length<=1000000):kY N s=some (aG (gL s)):=by unfold kY;have hu:=cX (cW hs);rw[aS8 hN (cW hs),aB,aC,aL (by rw[aJ,aJ];omega),aC,<-fE];rfl
theorem bAj(N m:Nat):fU N (m+1)=fL N (fU N m):=rfl
theorem aEw{N:Nat}(hN:20<=N)(l:List Str)(h:∀x∈l,x.length<=100000)(hl:l.length<=100000):∀(k i m:Nat) (acc:List Int),i+k=l.length->k<m->acc.length<=10+200000*i->fU N m l (i:Int) acc=some (acc++aG ((l.drop i).flatMap gL))
 |k,i,0,acc,_,h,_=>by omega
 |0,i,m+1,acc,hi,_,_=>by
  rw[bAj];unfold fL;rw[aK (decide_eq_false (by omega)),aC,cm (by omega)];exact congrArg some (υ acc).symm
 |k+1,i,m+1,acc,hi,hm,ha=>by
  have hlt:i<l.length:=by omega
  have hx:=h _ (dz hlt);have hu:(gL l[i]).length<=200000:=by unfold gL;have:=(cX (cW (show(l[i]).length<=1000000 by omega))).2;rw[κ];omega
  rw[bAj];unfold fL;rw[aI (decide_eq_true (by omega)),hU (μ hlt),bC5 hN _ (by omega),aB,aC,aC,aL (by rw[aJ];omega),bO (by omega) (by omega),aC,show((i:Int)+1)=((i+1:Nat):Int) by omega,aEw hN l h hl k (i+1) m _ (by omega) (by omega) (by rw[κ,aJ];omega),gG hlt,b6,fE,π]
theorem aL3(hN:20<=N)(l:List Str)(h:∀x∈l,x.length<=100000)(hl:l.length<N)(hb:l.length<=100000):eU N l=some (aG (pC l)):=by unfold eU;rw[aS8 hN (cW (by omega)),aB,aC];have hu:=cX (cW (show l.length<=1000000 by omega));have:=aEw hN l h hb l.length 0 N (aG (uvI (l.length:Int))) (by omega) hl (by rw[aJ];omega);rw[show(((0:Nat):Int))=0 from rfl]at this;rw[this,de,<-fE];rfl
theorem aLl(hN:20<=N)(h:okR r):cU N r=some (aG1 r):=by unfold cU;rw[show[1,r.1,r.2.1,r.2.2.1,r.2.2.2.1,r.2.2.2.2.1,r.2.2.2.2.2]=rl r from rfl,yR hN _ h (by show 7<N;omega) (by show 7<=_;omega),aB];rfl
theorem bFb(N:Nat)(b:Bool):qH N b=some (sgb b):=by cases b<;>rfl
theorem bFd(N m:Nat):fM N (m+1)=fN N (fM N m):=rfl
theorem aIi{N:Nat}(hN:20<=N)(v:Vr)(hv:okV v)(hl:4*(vp v).length<N):∀(k i m:Nat),i+k=(vp v).length->k<m->fM N m (i:Int) v.1 v.2.1 v.2.2.1 v.2.2.2.1 v.2.2.2.2.1 v.2.2.2.2.2.1 v.2.2.2.2.2.2.1 (vp v) (((vp v).take i).flatMap prt)=some (nU v)
 |k,i,0,_,h=>by omega
 |0,i,m+1,hi,_=>by
  obtain⟨h1,h2,h3⟩:=hv;rw[bFd];unfold fN;rw[aK (decide_eq_false (by omega)),bf (by omega)];have e:=yR hN (vl v) h1 (by show 8<N;omega) (by show 8<=_;omega);show bd? (bP N (vl v)) _=_;have hs:=aJz h3;rw[e,aB,aC,aL3 hN _ (fun x hx=>by have:=hs x hx;omega) (by rw[eI];omega) (by rw[eI];omega),aB,aC,bS];refine aL ?_;have a1:=zP h1 (by show 8<=_;omega);have a2:=aK4 (by omega) hs (by rw[eI];omega);have h9:(vl v).length=8:=rfl;rw[eI]at a2;have a3:(50000+10)*(4*(vp v).length)<=50010*4000:=js _ (by omega);omega
 |k+1,i,m+1,hi,hm=>by
  have hlt:i<(vp v).length:=by omega
  obtain⟨h1,h2,h3⟩:=hv;obtain⟨g1,g2,g3⟩:=h3 _ (dz hlt);have hlen:(((vp v).take i).flatMap prt).length<=4000:=by rw[eI,cp];omega
  have ih:=aIi hN v ⟨h1,h2,h3⟩ hl k (i+1) m (by omega) (by omega);rw[uB _ _ hlt,List.flatMap_append]at ih;have e:([(vp v)[i]]:List Pt).flatMap prt=[uvI (vp v)[i].1,uvI (sgb (vp v)[i].2.1),(vp v)[i].2.2.1,(vp v)[i].2.2.2]:=by rw[b6,jh,υ];rfl
  rw[e]at ih;rw[bFd];unfold fN;rw[aI (decide_eq_true (by omega)),hU (μ hlt),aKn hN g1,aB,bFb,aB,aKn hN (aPe _),aB,aC,aL (by simp only[τ,ba];omega),bO (by omega) (by omega),aC];exact ih
theorem aDe(hN:20<=N)(h:okV v)(hl:4*(vp v).length<N):bH N v=some (nU v):=by unfold bH;exact aIi hN v h hl (vp v).length 0 N (by omega) (by omega)
def vlo(s:Str):Nat->Nat
 |0=>0
 |k+1=>vlo s k+(s.getD k 0).toNat%128*128^k
theorem aTp(s:Str):∀k,vlo s k<128^k
 |0=>by show 0<1;decide
 |k+1=>by have h:=aTp s k;have h1:(s.getD k 0).toNat%128*128^k<=127*128^k:=cq _ (by omega);show vlo s k+_<128^k*128;omega
def bEo(k y:Nat):Option TE:=some (unz y,(((k+1:Nat):Int),0))
theorem bAi(m:Nat):eD (m+1)=gU (eD m):=rfl
theorem aY4(s:Str)(h:i<s.length):(aG s)[i]?=some (((s.getD i 0).toNat:Nat):Int):=by rw[aAc,μ h,bc,μ h];rfl
theorem aZ6(s:Str)(K:Nat)(hK:K<s.length)(hK9:K<=9):∀(i m acc:Nat),i<=K+1->i<m->acc*128^i+vlo s i<18446744073709551616->
  eD m (aG s) (K:Int) (acc:Int) ((i:Int)-1)=bEo K (acc*128^i+vlo s i)
 |_,0,_,_,h,_=>absurd h (Nat.not_lt_zero _)
 |0,m+1,acc,_,_,hb=>by
  have hb:acc<18446744073709551616:=by
   have:acc*128^0+vlo s 0=acc:=by rw[Nat.pow_zero,cu];rfl
   omega
  rw[bAi];unfold gU;have e0:bx (acc:Int) 2=((acc%2:Nat):Int):=by rw[show(2:Int)=((2:Nat):Int)from rfl,<-gb]
  have e1:ι .u64 (dk (acc:Int) 2)=((acc/2:Nat):Int):=by rw[show(2:Int)=((2:Nat):Int)from rfl,<-j7,q64 (by omega) (by omega)]
  have e2:ι .i64 ((acc/2:Nat):Int)=((acc/2:Nat):Int):=aJr (by omega) (by omega);rw[aK (decide_eq_false (by omega)),e0,e1,e2];have e3:acc*128^0+vlo s 0=acc:=by rw[Nat.pow_zero,cu];rfl
  rw[e3];unfold bEo unz;by_cases h:acc%2=1
  ·rw[aI (by rw[h];rfl),bO (by omega) (by omega),bO (by omega) (by omega),if_neg (by omega),show(-1:Int)-((acc/2:Nat):Int)=-((acc/2:Nat):Int)-1 by omega,show(K:Int)+1=((K+1:Nat):Int) by omega]
  ·have h0:acc%2=0:=by omega
   rw[aK (by rw[h0];rfl),bO (by omega) (by omega),if_pos h0,show(K:Int)+1=((K+1:Nat):Int) by omega]
 |i+1,m+1,acc,hi,hm,hb=>by
  have hlt:i<s.length:=by omega
  have hg:=aY4 s hlt;have hc:=(s.getD i 0).toNat_lt;have e:acc*128^(i+1)+vlo s (i+1)=(acc*128+(s.getD i 0).toNat%128)*128^i+vlo s i:=by show acc*(128^i*128)+(vlo s i+(s.getD i 0).toNat%128*128^i)=_;rw[cf,Nat.mul_assoc acc 128,Nat.mul_comm 128 (128^i)];omega
  rw[e]at hb|-;generalize(s.getD i 0).toNat=c at*;have p1:0<128^i:=Nat.pow_pos (by decide);have hle:acc*128+c%128<=(acc*128+c%128)*128^i:=Nat.le_mul_of_pos_right _ p1;rw[bAi];unfold gU;have e0:bx (c:Int) 128=((c%128:Nat):Int):=by rw[show(128:Int)=((128:Nat):Int)from rfl,<-gb]
  rw[show((i+1:Nat):Int)-1=(i:Int) by omega,aI (decide_eq_true (by omega)),hU hg,bO (by omega) (by omega),e0,q64 (x:=((c%128:Nat):Int)) (by omega) (by omega),show(acc:Int)*128=((acc*128:Nat):Int) by omega,q64 (x:=((acc*128:Nat):Int)) (by omega) (by omega),show((acc*128:Nat):Int)+((c%128:Nat):Int)=((acc*128+c%128:Nat):Int) by omega,q64 (by omega) (by omega)];exact aZ6 s K hK hK9 i m _ (by omega) (by omega) hb
theorem aWq(N m:Nat):gX N (m+1)=eF N (gX N m):=rfl
theorem aZ1{N:Nat}(hN:20<=N)(s:Str):∀(r:Str) (k m:Nat),s.drop k=r->k<=s.length->k<=9->10<m+k->gX N m (aG s) (k:Int)=some (giN k (vlo s k) r)
 |_,_,0,_,_,_,h=>by omega
 |[],k,m+1,hr,hks,hk,hm=>by
  have:s.length<=k:=by have:=congrArg List.length hr;rw[aw,ba]at this;omega
  rw[aWq];unfold eF;rw[aJ,aK (decide_eq_false (by omega)),aB];dsimp only;rw[aR,aK (by rw[beq_eq_false_iff_ne];omega),aJ];rw[aI (by rw[beq_iff_eq];omega)];rfl
 |c::r,k,m+1,hr,_,hk,hm=>by
  have hlen:k<s.length:=by have:=congrArg List.length hr;rw[aw,τ]at this;omega
  have hc:s[k]=c:=by have:=congrArg (·[0]?) hr;simp only[dm,Nat.add_zero,ep]at this;rw[μ hlen]at this;exact Option.some.inj this
  have hcD:s.getD k 0=c:=by rw[bc,μ hlen,hc];rfl
  have hr':s.drop (k+1)=r:=by have:=congrArg List.tail hr;rw[List.tail_drop]at this;exact this
  have hcl:=c.toNat_lt;have hget:(aG s)[k]?=some (c.toNat:Int):=by rw[aAc,μ hlen,hc];rfl
  have hv:vlo s (k+1)=vlo s k+c.toNat%128*128^k:=by show vlo s k+(s.getD k 0).toNat%128*128^k=_;rw[hcD]
  rw[aWq,giN];unfold eF;rw[aJ,aI (decide_eq_true (by omega)),aI (decide_eq_true (by omega)),hU hget,aB];dsimp only;by_cases h128:c.toNat<128
  ·
   rw[aK (decide_eq_false (by omega)),aK (by rw[beq_eq_false_iff_ne];omega),aJ,aK (by rw[beq_eq_false_iff_ne];omega)];have fin:∀x:Bool,x=decide ((k=9/\1<c.toNat)\/(0<k/\c.toNat=0))->(bd? (some (aG s,(k:Int),x)) fun w10=>if? (w10.2.2) (some (((0:Int),((0:Int),(11:Int))))) (eD N w10.1 w10.2.1 0 w10.2.1))=some (if(k=9/\1<c.toNat)\/(0<k/\c.toNat=0)then(0,0,11)else if c.toNat<128 then(unz (vlo s k+c.toNat%128*128^k),((k+1:Nat):Int),0)else giN (k+1) (vlo s k+c.toNat%128*128^k) r):=by
    intro x hx;subst hx;rw[aB];dsimp only;by_cases hb:(k=9/\1<c.toNat)\/(0<k/\c.toNat=0)
    ·rw[aI (decide_eq_true hb),if_pos hb]
    ·rw[aK (decide_eq_false hb),if_neg hb,if_pos h128];have hbd:=(aNq (vlo s k) k c.toNat (aTp s k) hk (by omega) (by omega)).2.1;have:=aZ6 s k hlen hk (k+1) N 0 (ω _) (by omega) (by rw[Nat.zero_mul,az,hv];exact hbd);rw[show((k+1:Nat):Int)-1=(k:Int) by omega,Nat.zero_mul,az,hv]at this;exact this
   by_cases h9:k=9
   ·rw[aI (by rw[beq_iff_eq];omega),hU hget];by_cases h1:1<c.toNat
    ·rw[aI (decide_eq_true (by omega))];exact fin _ (decide_eq_true (.inl ⟨h9,h1⟩)).symm
    ·rw[aK (decide_eq_false (by omega)),aI (decide_eq_true (by omega)),hU hget];refine fin _ ?_;rw[dv,beq_iff_eq,decide_eq_true_eq];omega
   ·rw[aK (by rw[beq_eq_false_iff_ne];omega)];by_cases h0:0<k
    ·rw[aI (decide_eq_true (by omega)),hU hget];refine fin _ ?_;rw[dv,beq_iff_eq,decide_eq_true_eq];omega
    ·rw[aK (decide_eq_false (by omega))];refine fin _ ?_;rw[dv,decide_eq_true_eq];constructor
     ·intro h;cases h
     ·intro h;omega
  ·rw[aI (decide_eq_true (by omega)),bO (by omega) (by omega),show(k:Int)+1=((k+1:Nat):Int) by omega];by_cases h9:k=9
   ·subst h9;rw[if_pos (.inl ⟨rfl,by omega⟩)];obtain⟨m,rfl⟩:∃m',m=m'+1:=⟨m-1,by omega⟩;rw[aWq];unfold eF;by_cases hl:10<s.length
    ·rw[aJ,aI (decide_eq_true (by omega)),aK (by rfl),aB];rfl
    ·rw[aJ,aK (decide_eq_false (by omega)),aB];rfl
   ·rw[if_neg (by omega),if_neg h128,aZ1 hN s r (k+1) m hr' (by omega) (by omega) (by omega),hv]
theorem aCy(hN:20<=N)(s:Str):dA N (aG s)=some (gi s):=by unfold dA;exact aZ1 hN s s 0 N rfl (by omega) (by omega) (by omega)
theorem aFk(hN:20<=N)(s:Str)(hs:s.length<=1000000):gE N (aG s) 1=some (bB s):=by
 unfold gE bB;rw[aCy hN,aB,aJ];rcases vE s with⟨e,u,h1,h2,h3,h4,h5⟩|⟨h1,h2,h3⟩
 ·obtain⟨b1,b2⟩:=h5;rw[kV e,aR,if_neg (by rw[e];simp),h1,Int.tdiv_one];by_cases hn:(gi s).1<0
  ·rw[aI (decide_eq_true hn),if_pos hn]
  ·rw[aK (decide_eq_false hn),if_neg hn,bO (by omega) (by omega),aL (by decide),bO (by omega) (by omega)];by_cases hg:(gi s).1>(s.length:Int)-(u:Int)
   ·rw[aI (decide_eq_true hg),if_pos hg]
   ·rw[aK (decide_eq_false hg),if_neg hg]
 ·have hne:(gi s).2.2≠0:=by omega
  rw[kP hne,aS,if_pos hne]
theorem aTf(N m:Nat):fO N (m+1)=fP N (fO N m):=rfl
theorem aBd{N:Nat}(hN:20<=N)(s:Str)(v:Nat)(hs:s.length<=1000000):∀(n a b m:Nat) (acc:List Int),v=b+n->a<=s.length->b+n<=1000000->acc.length=b->n<m->
  fO N m (aG s) (v:Int) (a:Int) (b:Int) acc=some (swp (jC n (s.drop a) (a:Int) acc))
 |n,a,b,0,acc,_,_,_,_,h=>by omega
 |0,a,b,m+1,acc,hv,ha,hb,hacc,_=>by
  rw[aTf];unfold fP;rw[aK (decide_eq_false (by omega)),aC];rfl
 |n+1,a,b,m+1,acc,hv,ha,hb,hacc,hm=>by
  rw[aTf];unfold fP;rw[aI (decide_eq_true (by omega)),aL (by omega),χ,aL (by rw[aJ];exact ha),aL (ω _),uA,aCy hN,aB,jC];rcases vE (s.drop a)with⟨e,u,h1,h2,h3,h4,h5⟩|⟨h1,h2,h3⟩
  ·rw[aw]at h3;rw[kV e,aR,if_neg (by rw[e];simp),aC,aL (by simp only[τ,ba];omega),h1,bO (by omega) (by omega),bO (by omega) (by omega),aC,show((a:Int)+(u:Int))=((a+u:Nat):Int) by omega,show((b:Int)+1)=((b+1:Nat):Int) by omega,
    aBd hN s v hs n (a+u) (b+1) m _ (by omega) (by omega) (by omega) (by simp[hacc]) (by omega),χ,di]
  ·have hne:(gi (s.drop a)).2.2≠0:=by omega
   rw[kP hne,aS,if_pos hne];rfl
theorem xR(s:Str)(hN:20<=N)(hs:s.length<N)(hb:s.length<=1000000):cT N (aG s)=some (swp (aD s)):=by
 unfold cT aD;rw[aFk hN s hb,aB];rcases jO s with⟨e,n,u,h1,h2,h3⟩|⟨h1,h2,h3⟩
 ·rw[kV e,aR,if_neg (by rw[e];simp)];have e1:(bB s).1=(n:Int):=by rw[h1]
  have e2:(bB s).2.1=(u:Int):=by rw[h1]
  rw[e2,e1];have:=aBd hN s n hb n u 0 N [] (by omega) (by omega) (by omega) rfl (by omega);rw[show(((0:Nat):Int))=0 from rfl]at this;rw[this,χ,χ]
  try rfl
 ·have hne:(bB s).2.2≠0:=by omega
  rw[kP hne,aS,if_pos hne]
  try rfl
theorem aS7(s:Str)(hN:20<=N)(hb:s.length<=1000000):gN N (aG s)=some (bD s):=by
 unfold gN;rw[aCy hN,aB,aJ];rcases vE s with⟨e,u,h1,h2,h3,h4,h5⟩|⟨h1,h2,h3⟩
 ·obtain⟨b1,b2⟩:=h5;rw[kV e,aR,h1];by_cases hn:(gi s).1<0
  ·have hl:bB s=(0,0,11):=by unfold bB;rw[if_neg (by rw[e];simp),if_pos hn]
   rw[aI (decide_eq_true hn),bD,hl];rfl
  ·rw[aK (decide_eq_false hn),bO (by omega) (by omega)];by_cases hg:(gi s).1>(s.length:Int)-(u:Int)
   ·have hl:bB s=(0,0,10):=by unfold bB;rw[if_neg (by rw[e];simp),if_neg hn,h1,if_pos hg]
    rw[aI (decide_eq_true hg),bD,hl];rfl
   ·have hl:bB s=((gi s).1,(u:Int),0):=by unfold bB;rw[if_neg (by rw[e];simp),if_neg hn,h1,if_neg hg]
    rw[aK (decide_eq_false hg),bO (by omega) (by omega),aL (by omega),aL (by omega),aL (by omega),aL (by omega),bO (by omega) (by omega),χ,show((u:Int)+(gi s).1).toNat-u=(gi s).1.toNat by omega,<-wE,<-aFa,bS,bD,hl];rfl
 ·have hne:(gi s).2.2≠0:=by omega
  have hl:bB s=(0,0,(gi s).2.2):=by unfold bB;rw[if_pos hne]
  rw[kP hne,aS,bD,hl,if_pos (by exact hne)]
theorem aUn(N m:Nat):dQ N (m+1)=dR N (dQ N m):=rfl
theorem aB1{N:Nat}(hN:20<=N)(s:Str)(v:Nat)(hs:s.length<=1000000):∀(n a b m:Nat) (acc:List Str),v=b+n->a<=s.length->b+n<=1000000->acc.length=b->n<m->
  dQ N m (aG s) (v:Int) (a:Int) (b:Int) acc=some (swp (iW n (s.drop a) (a:Int) acc))
 |n,a,b,0,acc,_,_,_,_,h=>by omega
 |0,a,b,m+1,acc,hv,ha,hb,hacc,_=>by
  rw[aUn];unfold dR;rw[aK (decide_eq_false (by omega)),aC];rfl
 |n+1,a,b,m+1,acc,hv,ha,hb,hacc,hm=>by
  rw[aUn];unfold dR;rw[aI (decide_eq_true (by omega)),aL (by omega),χ,aL (by rw[aJ];exact ha),aL (ω _),uA,aS7 _ hN (by rw[aw];omega),aB,iW];rcases aAu (s.drop a)with⟨e,u,h1,h2,h3,h4⟩|⟨h1,h2,h3⟩
  ·rw[aw]at h3;rw[kV e,aR,if_neg (by rw[e];simp),aC,aL (by simp only[τ,ba];omega),h1,bO (by omega) (by omega),bO (by omega) (by omega),aC,show((a:Int)+(u:Int))=((a+u:Nat):Int) by omega,show((b:Int)+1)=((b+1:Nat):Int) by omega,
    aB1 hN s v hs n (a+u) (b+1) m _ (by omega) (by omega) (by omega) (by simp[hacc]) (by omega),χ,di]
  ·have hne:(bD (s.drop a)).2.2≠0:=by omega
   rw[kP hne,aS,if_pos hne];rfl
theorem aBm(s:Str)(hN:20<=N)(hs:s.length<N)(hb:s.length<=1000000):dF N (aG s)=some (swp (cO s)):=by
 unfold dF cO;rw[aFk hN s hb,aB];rcases jO s with⟨e,n,u,h1,h2,h3⟩|⟨h1,h2,h3⟩
 ·rw[kV e,aR,if_neg (by rw[e];simp)];have e1:(bB s).1=(n:Int):=by rw[h1]
  have e2:(bB s).2.1=(u:Int):=by rw[h1]
  rw[e2,e1];have:=aB1 hN s n hb n u 0 N [] (by omega) (by omega) (by omega) rfl (by omega);rw[show(((0:Nat):Int))=0 from rfl]at this;rw[this,χ,χ]
  try rfl
 ·have hne:(bB s).2.2≠0:=by omega
  rw[kP hne,aS,if_pos hne]
  try rfl
def rz:Rd:=(0,(0,(0,(0,(0,0)))))
theorem aUq(h:(grd s).2≠0):grd s=(rz,11):=by
 rcases bEu s with g|g
 ·exact absurd g h
 ·exact g
theorem uK(h:∀x∈l,I64 x)(hl:l.length<=1000000):aD (cC l)=(l,((cC l).length:Int),0):=by have:=mK h hl [];rwa[υ]at this
theorem bCc{x y:Str}(h:x=y):(!(x==y))=false:=by subst h;simp
theorem aTm{x y:Str}(h:x≠y):(!(x==y))=true:=by simp[h]
theorem aBl(s:Str)(hN:20<=N)(hs:s.length<N)(hb:s.length<=1000000):dC N s=some (grd s):=by
 unfold dC;rw[xR s hN hs hb,aB];unfold swp;dsimp only;rcases kA s with⟨e,u,h1,h2,h3,h4⟩|g
 ·rw[kV e,aR,aC,aB];by_cases hl:(aD s).1.length=7
  ·have h7:=aZ0 hl;have hI:=h4;generalize(aD s).1.getD 0 0=a0 at h7;generalize(aD s).1.getD 1 0=a1 at h7;generalize(aD s).1.getD 2 0=a2 at h7;generalize(aD s).1.getD 3 0=a3 at h7;generalize(aD s).1.getD 4 0=a4 at h7;generalize(aD s).1.getD 5 0=a5 at h7;generalize(aD s).1.getD 6 0=a6 at h7;rw[h7]at hI|-;have ok:okR (a1,(a2,(a3,(a4,(a5,a6))))):=fun x hx=>by
    rcases br.1 hx with rfl|hx
    ·exact yE.2
    ·exact hI x (br.2 (.inr hx))
   show bd? (cU N (a1,(a2,(a3,(a4,(a5,a6)))))) (fun v10=>if? (!(v10==s)) (some (rz,11)) (some ((a1,(a2,(a3,(a4,(a5,a6))))),0)))=_;rw[aLl hN ok,aB];by_cases he:aG1 (a1,(a2,(a3,(a4,(a5,a6)))))=s
   ·rw[bCc he,aR,<-he,aY1 ok]
   ·rw[aTm he,aS,aUq];intro h0;obtain⟨g1,g2⟩:=aJf h0;have e2:=uK (l:=rl (grd s).1) g2 (by show 7<=_;omega);have e3:aD s=aD (cC (rl (grd s).1)):=congrArg aD g1;rw[e2]at e3;have e4:(aD s).1=rl (grd s).1:=by rw[e3]
    rw[h7]at e4;apply he;rw[g1];unfold aG1;refine congrArg cC ?_;show 1::_=1::_;exact congrArg (fun t=>1::t) (congrArg List.tail e4)
  ·rw[kP (show((aD s).1.length:Int)≠7 by omega),aS,aUq]
   ·rfl
   ·intro h0;obtain⟨g1,g2⟩:=aJf h0;have e2:=uK (l:=rl (grd s).1) g2 (by show 7<=_;omega);have e3:aD s=aD (cC (rl (grd s).1)):=congrArg aD g1;rw[e2]at e3;apply hl;rw[e3];rfl
 ·rw[kP g,aS,aC,aB,aUq]
  ·rfl
  ·intro h0;obtain⟨g1,g2⟩:=aJf h0;have e2:=uK (l:=rl (grd s).1) g2 (by show 7<=_;omega);have e3:aD s=aD (cC (rl (grd s).1)):=congrArg aD g1;rw[e2]at e3;apply g;rw[e3]
theorem aOg{β:Type}{xs:List α}{x:α}{f:α->Option β}(h:xs[i]?=some x):gd? (0<=(i:Int)) (gd? ((i:Int)<((xs.length:Nat):Int)) (gn? xs (i:Int).toNat f))=f x:=by have hl:=(List.getElem?_eq_some_iff.1 h).1;rw[aL (by omega),aL (by omega),χ,bBo h]
def pp:List Str->List Pt->Option (List Pt)
 |a::b::c::d::r,acc=>if(gi a).2.2=0 then pp r (acc++[((gi a).1,(b==uvI 1,(c,d)))])else none
 |_,acc=>some acc
def fl2(v:Vr×Int):Int×(Int×(Int×(Int×(Int×(Int×(Int×(Int×List Pt))))))):=(v.1.1,(v.1.2.1,(v.1.2.2.1,(v.1.2.2.2.1,(v.1.2.2.2.2.1,(v.1.2.2.2.2.2.1,(v.1.2.2.2.2.2.2.1,(v.2,v.1.2.2.2.2.2.2.2))))))))
def bEd(s:Str)(x1 x2 x3 x4 x5 x6 x7:Int):Option (List Pt)->Vr×Int
 |none=>(vz,11)
 |some q=>if nU (x1,(x2,(x3,(x4,(x5,(x6,(x7,q)))))))=s then((x1,(x2,(x3,(x4,(x5,(x6,(x7,q))))))),0)else(vz,11)
theorem bEm:uvI 0=[0]:=uvarint_small (x:=0) (by decide)
theorem bA1:uvI 1=[2]:=uvarint_small (x:=2) (by decide)
theorem bEt(b:Bool):(uvI (sgb b)==uvI 1)=b:=by
 cases b with
 |false=>show(uvI 0==uvI 1)=false;rw[bEm,bA1];rfl
 |true=>show(uvI 1==uvI 1)=true;rw[bA1];rfl
theorem aPd:∀(l acc:List Pt),okP l->pp (l.flatMap prt) acc=some (acc++l)
 |[],acc,_=>by rw[υ];rfl
 |p::l,acc,h=>by have hp:=(h p (by simp)).1;have e:=aKb hp [];rw[υ]at e;rw[b6];show pp (uvI p.1::uvI (sgb p.2.1)::p.2.2.1::p.2.2.2::l.flatMap prt) acc=_;rw[pp,e,if_pos rfl,bEt,aPd l _ (fun q hq=>h q (by simp[hq])),π];rfl
theorem bAt(N m:Nat):cN N (m+1)=dM N (cN N m):=rfl
theorem aLn{N:Nat}(hN:20<=N)(s:Str)(x1 x2 x3 x4 x5 x6 x7:Int)(hI:∀x∈[2,x1,x2,x3,x4,x5,x6,x7],I64 x)(L:List Str)(hLN:L.length<N)(hL:L.length<=4000)(hp:∀x∈L,x.length<=50000):∀(k j m:Nat) (acc:List Pt),L.length=4*(j+k)->k<m->acc.length=j->okP acc->
  cN N m s ((4*j:Nat):Int) 0 0 0 0 0 0 0 0 0 0 0 0 0 0 0 11 L x1 x2 x3 x4 x5 x6 x7 [] [] acc=some (fl2 (bEd s x1 x2 x3 x4 x5 x6 x7 (pp (L.drop (4*j)) acc)))
 |k,j,0,_,_,h,_,_=>by omega
 |0,j,m+1,acc,hj,_,ha,hok=>by
  rw[bAt];unfold dM;rw[aK (decide_eq_false (by omega)),aC,cm (by omega)];have ok:okV (x1,(x2,(x3,(x4,(x5,(x6,(x7,acc))))))):=⟨hI,by show acc.length<=_;omega,hok⟩;rw[aDe hN ok (by show 4*acc.length<N;omega),aB];show _=some (fl2 (if nU (x1,(x2,(x3,(x4,(x5,(x6,(x7,acc)))))))=s then((x1,(x2,(x3,(x4,(x5,(x6,(x7,acc))))))),0)else(vz,11)));by_cases he:nU (x1,(x2,(x3,(x4,(x5,(x6,(x7,acc)))))))=s
  ·rw[bCc he,aR,aC,if_pos he];rfl
  ·rw[aTm he,aS,aC,if_neg he];rfl
 |k+1,j,m+1,acc,hj,hm,ha,hok=>by
  have l0:4*j<L.length:=by omega
  have l1:4*j+1<L.length:=by omega
  have l2:4*j+2<L.length:=by omega
  have l3:4*j+3<L.length:=by omega
  have ed:L.drop (4*j)=L[4*j]::L[4*j+1]::L[4*j+2]::L[4*j+3]::L.drop (4*(j+1)):=by rw[fb l0,fb l1,fb l2,fb l3];rfl
  have hc:=hp _ (dz l2);have hd:=hp _ (dz l3);rw[bAt];unfold dM;rw[ed,pp,aI (decide_eq_true (by omega)),aOg (μ l0),aCy hN,aB];rcases vE L[4*j]with⟨e,u,h1,h2,h3,h4,h5⟩|⟨h1,h2,h3⟩
  ·rw[kV e,aR,if_pos e,bO (by omega) (by omega),show((4*j:Nat):Int)+1=((4*j+1:Nat):Int) by omega,aOg (μ l1),aKn hN yE.2,aB,bO (by omega) (by omega),show((4*j:Nat):Int)+2=((4*j+2:Nat):Int) by omega,aOg (μ l2),bO (by omega) (by omega),show((4*j:Nat):Int)+3=((4*j+3:Nat):Int) by omega,aOg (μ l3),aC,aL (by simp only[τ,ba];omega),bO (by omega) (by omega),show((4*j:Nat):Int)+4=((4*(j+1):Nat):Int) by omega,aC,aC,aC,aC];refine aLn hN s x1 x2 x3 x4 x5 x6 x7 hI L hLN hL hp k (j+1) m _ (by omega) (by omega) (by simp only[κ,τ,ba];omega) fun p hp=>?_;rcases dh.1 hp with hp|hp
   ·exact hok p hp
   ·rw[bk.1 hp];exact⟨h5,hc,hd⟩
  ·have hne:(gi L[4*j]).2.2≠0:=by omega
   rw[kP hne,aS,if_neg hne,aC];rfl
theorem bAn:∀(k:Nat) (L:List Str) (acc q:List Pt),L.length=4*k->okP acc->(∀x∈L,x.length<=50000)->pp L acc=some q->okP q/\q.length=acc.length+k
 |0,L,acc,q,hl,ha,_,h=>by
  have:L=[]:=ft.1 (by omega);subst this;cases h;exact⟨ha,rfl⟩
 |k+1,L,acc,q,hl,ha,hp,h=>by
  obtain⟨a,b,c,d,r,rfl⟩:∃a b c d r,L=a::b::c::d::r:=by
   match L,hl with
   |a::b::c::d::r,_=>exact⟨a,b,c,d,r,rfl⟩
   |[],h=>simp at h
   |[_],h=>simp at h;omega
   |[_,_],h=>simp at h;omega
   |[_,_,_],h=>simp at h;omega
  rw[pp]at h;rcases vE a with⟨e,u,h1,h2,h3,h4,h5⟩|⟨h1,h2,h3⟩
  ·rw[if_pos e]at h;have:=bAn k r _ q (by simp only[τ]at hl;omega) (fun p hq=>by
    rcases dh.1 hq with hq|hq
    ·exact ha p hq
    ·rw[bk.1 hq];exact⟨h5,hp c (by simp),hp d (by simp)⟩) (fun x hx=>hp x (by simp[hx])) h
   refine⟨this.1,?_⟩;rw[this.2];simp only[κ,τ,ba];omega
  ·rw[if_neg (by omega)]at h;cases h
theorem bAc(h:(gvr s).2≠0):gvr s=(vz,11):=by
 rcases bFp s with g|g
 ·exact absurd g h
 ·exact g
theorem gV(ok:okV v):aD (nU v)=(vl v,((cC (vl v)).length:Int),0)/\(cO ((nU v).drop (cC (vl v)).length)).1=(vp v).flatMap prt/\(cO ((nU v).drop (cC (vl v)).length)).2.2=0:=by obtain⟨h1,h2,h3⟩:=ok;have hs:=aJz h3;have e:=aA3 (l:=(vp v).flatMap prt) (fun x hx=>by have:=hs x hx;omega) (by rw[eI];omega) [];rw[υ]at e;refine⟨mK h1 (by show 8<=_;omega) _,?_⟩;unfold nU;rw[kD,e];exact⟨rfl,rfl⟩
theorem aBz(s:Str)(hN:20<=N)(hs:s.length<N)(hb:s.length<=4000):dG N s=some (fl2 (gvr s)):=by
 have neg:∀P:Prop,(∀v,okV v->s=nU v->gvr s=(v,0)->¬P)->P->gvr s=(vz,11):=fun P h hP=>bAc fun h0=>by obtain⟨g1,g2⟩:=aRc hb h0;exact h _ g2 g1 (by rw[<-h0]) hP
 unfold dG;rw[xR s hN hs (by omega),aB];unfold swp;dsimp only;rcases kA s with⟨e,u,h1,h2,h3,h4⟩|g
 ·rw[kV e,aR,aC,aB];dsimp only;by_cases hl:(aD s).1.length=8
  ·rw[kV (show((aD s).1.length:Int)=8 by omega),aR,h1,aL (by omega),χ,aL h2,aL (ω _),aE9,aBm _ hN (by rw[aw];omega) (by rw[aw];omega),aB];unfold swp;dsimp only;rcases xB (s.drop u)with⟨e',u',g1,g2,g3,g4⟩|g
   ·rw[aw]at g3;rw[kV e',aR,aC,aC,aC,aC,aB];dsimp only;have e4:bx ((cO (s.drop u)).1.length:Int) 4=(((cO (s.drop u)).1.length%4:Nat):Int):=by rw[show(4:Int)=((4:Nat):Int)from rfl,<-gb]
    have hV:∀v,okV v->s=nU v->aD s=(vl v,(u:Int),0)/\(cO (s.drop u)).1=(vp v).flatMap prt:=fun v ok hv=>by
     obtain⟨i1,i2,i3⟩:=gV ok;rw[<-hv]at i1 i2;have hu:u=(cC (vl v)).length:=by rw[i1]at h1;exact(Int.ofNat.inj h1).symm
     rw[<-hu]at i1 i2;exact⟨i1,i2⟩
    by_cases h4':(cO (s.drop u)).1.length%4=0
    ·rw[e4,h4',kV (show((0:Nat):Int)=0 from rfl),aR];have h8:=bBe hl;have hI:=h4;have h0:(aD s).1.getD 0 0=(aD s).1.getD 0 0:=rfl;generalize hG:(cO (s.drop u)).1=L at*;rw[h8]at hI|-;have hVL:∀v,okV v->s=nU v->(aD s).1=vl v:=fun v ok hv=>by rw[(hV v ok hv).1]
     rw[h8]at hVL;generalize(aD s).1.getD 0 0=a0 at*;generalize(aD s).1.getD 1 0=a1 at*;generalize(aD s).1.getD 2 0=a2 at*;generalize(aD s).1.getD 3 0=a3 at*;generalize(aD s).1.getD 4 0=a4 at*;generalize(aD s).1.getD 5 0=a5 at*;generalize(aD s).1.getD 6 0=a6 at*;generalize(aD s).1.getD 7 0=a7 at*;show gl? L.length L (cN N N s ((4*0:Nat):Int) 0 0 0 0 0 0 0 0 0 0 0 0 0 0 0 11 L a1 a2 a3 a4 a5 a6 a7 [] [] [])=_;rw[aC];have hI':∀x∈[2,a1,a2,a3,a4,a5,a6,a7],I64 x:=fun x hx=>by
      rcases br.1 hx with rfl|hx
      ·exact⟨by decide,by decide⟩
      ·exact hI x (br.2 (.inr hx))
     have hp:∀x∈L,x.length<=50000:=fun x hx=>by have:=g4 x hx;rw[aw]at this;omega
     rw[aLn hN s a1 a2 a3 a4 a5 a6 a7 hI' L (by omega) (by omega) hp (L.length/4) 0 N [] (by omega) (by omega) rfl (fun p hp=>(dc hp).elim)];show some (fl2 (bEd s a1 a2 a3 a4 a5 a6 a7 (pp L [])))=_;refine congrArg (fun x=>some (fl2 x)) ?_;cases hq:pp L []with
     |none=>
      refine(neg True (fun v ok hv _ _=>?_) trivial).symm;have:=(hV v ok hv).2;rw[this,aPd _ _ ok.2.2]at hq;cases hq
     |some q=>
      obtain⟨q1,q2⟩:=bAn (L.length/4) L [] q (by omega) (fun p hp=>(dc hp).elim) hp hq;have ok:okV (a1,(a2,(a3,(a4,(a5,(a6,(a7,q))))))):=⟨hI',by show q.length<=_;rw[q2,ba];omega,q1⟩;unfold bEd;dsimp only;by_cases he:nU (a1,(a2,(a3,(a4,(a5,(a6,(a7,q)))))))=s
      ·rw[if_pos he,<-he,aYe ok]
      ·rw[if_neg he];refine(neg True (fun v okv hv _ _=>he ?_) trivial).symm;have e1:=hVL v okv hv;have e2:=(hV v okv hv).2;rw[e2,aPd _ _ okv.2.2,cn]at hq;have e3:=Option.some.inj hq;rw[hv];have e5:vl (a1,(a2,(a3,(a4,(a5,(a6,(a7,q)))))))=vl v:=by show 2::_=2::_;exact congrArg (fun t=>2::t) (congrArg List.tail e1)
       unfold nU;rw[e5,<-e3]
    ·rw[e4,kP (show((((cO (s.drop u)).1.length%4:Nat):Int)≠0) by omega),aS,aC,neg ((cO (s.drop u)).1.length%4≠0) (fun v ok hv _ h=>h (by rw[(hV v ok hv).2,eI];omega)) h4'];rfl
   ·rw[kP g,aS,aC,aC,aC,aC,aB];dsimp only;rw[aS,aC,neg ((cO (s.drop u)).2.2≠0) (fun v ok hv _ h=>h (by
     obtain⟨i1,i2,i3⟩:=gV ok;rw[<-hv]at i1 i3;have hu:u=(cC (vl v)).length:=by rw[i1]at h1;exact(Int.ofNat.inj h1).symm
     rw[hu];exact i3)) g]
    rfl
  ·rw[kP (show((aD s).1.length:Int)≠8 by omega),aS,aC,neg ((aD s).1.length≠8) (fun v ok hv _ h=>h (by rw[hv,(gV ok).1];rfl)) hl];rfl
 ·rw[kP g,aS,aC,aB];dsimp only;rw[aS,aC,neg ((aD s).2.2≠0) (fun v ok hv _ h=>h (by rw[hv,(gV ok).1])) g];rfl
theorem bAo(N:Nat)(r)(m:Nat):jQ N r (m+1)=jU N r (jQ N r m):=rfl
theorem aZx(N m:Nat):kE N (m+1)=jX N (kE N m):=rfl
theorem bA0(N:Nat)(r)(m:Nat):iJ N r (m+1)=iK N r (iJ N r m):=rfl
theorem bAp(N m:Nat):iI N (m+1)=iQ N (iI N m):=rfl
theorem tk(t:List Hl)(j:Nat)(h:j<t.length)(P:List Int):P++[t[j].1,t[j].2]++(t.drop (j+1)).flatMap hlI=P++(t.drop j).flatMap hlI:=by rw[gG h,b6,π];rfl
theorem kb1{N:Nat}(hN:5000<=N)(r)(rs rs':List Rn)(n i:Nat)(t:List Hl)(f1 f2 f3 f4 f5:Int)(acc:List Str)(ht:t.length<=1000)(hacc:acc.length<=1000)(hi:i<=1000):∀(k j m:Nat) (P:List Int),j+k=t.length->k<m->P.length<=4+2*j->(∀x∈P++(t.drop j).flatMap hlI,I64 x)->
  jQ N r m rs (n:Int) (i:Int) t ((t.length:Nat):Int) (j:Int) f1 f2 f3 f4 f5 rs' acc P=r rs (n:Int) ((i+1:Nat):Int) f1 f2 f3 f4 f5 rs' (acc++[cC (P++(t.drop j).flatMap hlI)])
 |k,j,0,P,_,h,_,_=>by omega
 |0,j,m+1,P,hj,_,hP,hI=>by
  rw[bAo];unfold jU;rw[cm (by omega)]at hI|-;rw[jh,υ]at hI|-;rw[aK (decide_eq_false (by omega)),aC,qB (by omega) P hI (by omega) (by omega),aB,aC,aL (by simp only[τ,ba];omega),bO (by omega) (by omega),aC,show((i:Int)+1)=((i+1:Nat):Int) by omega]
 |k+1,j,m+1,P,hj,hm,hP,hI=>by
  have hlt:j<t.length:=by omega
  rw[bAo];unfold jU;rw[aI (decide_eq_true (by omega)),hU (μ hlt),aC,aL (by simp only[τ,ba];omega),bO (by omega) (by omega),aC,aC,show((j:Int)+1)=((j+1:Nat):Int) by omega,kb1 hN r rs rs' n i t f1 f2 f3 f4 f5 acc ht hacc hi k (j+1) m _ (by omega) (by omega) (by simp only[κ,τ,ba];omega) (by rw[tk _ _ hlt];exact hI),tk _ _ hlt]
theorem rb1{N:Nat}(hN:5000<=N)(r)(rs':List Rn)(i:Nat)(t:List Hl)(f1 f2 f3 f4 f5 y1 y2 y3 y4:Int)(acc:List Str)(ht:t.length<=1000)(hacc:acc.length<=1000)(hi:i<=1000):∀(k j m:Nat) (P:List Int),j+k=t.length->k<m->P.length<=4+2*j->(∀x∈P++(t.drop j).flatMap hlI,I64 x)->
  iJ N r m (i:Int) (j:Int) f1 f2 f3 f4 f5 rs' acc y1 y2 t y3 y4 P=r ((i+1:Nat):Int) f1 f2 f3 f4 f5 rs' (acc++[cC (P++(t.drop j).flatMap hlI)])
 |k,j,0,P,_,h,_,_=>by omega
 |0,j,m+1,P,hj,_,hP,hI=>by
  rw[bA0];unfold iK;rw[cm (by omega)]at hI|-;rw[jh,υ]at hI|-;rw[aK (decide_eq_false (by omega)),aC,yR (by omega) P hI (by omega) (by omega),aB,aC,aL (by simp only[τ,ba];omega),bO (by omega) (by omega),aC,show((i:Int)+1)=((i+1:Nat):Int) by omega]
 |k+1,j,m+1,P,hj,hm,hP,hI=>by
  have hlt:j<t.length:=by omega
  rw[bA0];unfold iK;rw[aI (decide_eq_true (by omega)),hU (μ hlt),hU (μ hlt),aC,aL (by simp only[τ,ba];omega),bO (by omega) (by omega),aC,aC,show((j:Int)+1)=((j+1:Nat):Int) by omega,rb1 hN r rs' i t f1 f2 f3 f4 f5 y1 y2 y3 y4 acc ht hacc hi k (j+1) m _ (by omega) (by omega) (by simp only[κ,τ,ba];omega) (by rw[tk _ _ hlt];exact hI),tk _ _ hlt]
theorem aO6(h:okK b):(∀x∈(brs b).map fun r=>cC (rnI r),x.length<=50000)/\(cC (bl b)).length+(pC ((brs b).map fun r=>cC (rnI r))).length<=9223372036854775807:=by
 obtain⟨h1,h2,h3⟩:=h;have hp:∀x∈(brs b).map fun r=>cC (rnI r),x.length<=50000:=fun x hx=>by obtain⟨r,hr,rfl⟩:=cw.1 hx;have:=zP (h3 r hr).2 (by rw[iP];have:=(h3 r hr).1;omega);rw[iP]at this;have:=(h3 r hr).1;omega
 refine⟨hp,?_⟩;have a1:=zP h1 (by show 6<=_;omega);have a2:=aK4 (by omega) hp (by rw[θ];omega);have h9:(bl b).length=6:=rfl;rw[θ]at a2;have a3:(50000+10)*(brs b).length<=50010*1000:=js _ h2;omega
theorem kb0{N:Nat}(hN:5000<=N)(b:Bk)(hb:okK b):∀(k i m:Nat),i+k=(brs b).length->k<m->
  kE N m (brs b) (((brs b).length:Nat):Int) (i:Int) b.1 b.2.1 b.2.2.1 b.2.2.2.1 b.2.2.2.2.1 (brs b) (((brs b).take i).map fun r=>cC (rnI r))=some (nR b)
 |k,i,0,_,h=>by omega
 |0,i,m+1,hi,_=>by
  obtain⟨e1,e2⟩:=aO6 hb;obtain⟨h1,h2,h3⟩:=hb;rw[aZx];unfold jX;rw[aK (decide_eq_false (by omega)),bf (by omega)];show bd? (bW N (bl b)) _=_;rw[qB (by omega) _ h1 (by show 6<N;omega) (by show 6<=_;omega),aB,aC,aEf (by omega) _ (fun x hx=>by have:=e1 x hx;omega) (by rw[θ];omega) (by rw[θ];omega),aB,aC,bS];exact aL e2
 |k+1,i,m+1,hi,hm=>by
  have hlt:i<(brs b).length:=by omega
  have hb':=hb;obtain⟨h1,h2,h3⟩:=hb';obtain⟨g1,g2⟩:=h3 _ (dz hlt);have ih:=kb0 hN b hb k (i+1) m (by omega) (by omega);rw[uB _ _ hlt,bo]at ih;rw[aZx];unfold jX;rw[aI (decide_eq_true (by omega)),hU (μ hlt),aC];refine(kb1 hN _ (brs b) (brs b) _ i _ _ _ _ _ _ _ g1 (by rw[θ,cp];omega) (by omega) (brs b)[i].2.2.1.length 0 N _ (by omega) (by omega) (ω _) g2).trans ih
theorem aWn(hN:5000<=N)(h:okK b):jP N b=some (nR b):=by unfold jP;exact kb0 hN b h (brs b).length 0 N (by omega) (by have:=h.2.1;omega)
theorem rb0{N:Nat}(hN:5000<=N)(b:Bk)(hb:okK b):∀(k i m:Nat),i+k=(brs b).length->k<m->
  iI N m (i:Int) b.1 b.2.1 b.2.2.1 b.2.2.2.1 b.2.2.2.2.1 (brs b) (((brs b).take i).map fun r=>cC (rnI r))=some (nR b)
 |k,i,0,_,h=>by omega
 |0,i,m+1,hi,_=>by
  obtain⟨e1,e2⟩:=aO6 hb;obtain⟨h1,h2,h3⟩:=hb;rw[bAp];unfold iQ;rw[aK (decide_eq_false (by omega)),bf (by omega)];show bd? (bP N (bl b)) _=_;rw[yR (by omega) _ h1 (by show 6<N;omega) (by show 6<=_;omega),aB,aC,aL3 (by omega) _ (fun x hx=>by have:=e1 x hx;omega) (by rw[θ];omega) (by rw[θ];omega),aB,aC,bS];exact aL e2
 |k+1,i,m+1,hi,hm=>by
  have hlt:i<(brs b).length:=by omega
  have hb':=hb;obtain⟨h1,h2,h3⟩:=hb';obtain⟨g1,g2⟩:=h3 _ (dz hlt);have ih:=rb0 hN b hb k (i+1) m (by omega) (by omega);rw[uB _ _ hlt,bo]at ih;rw[bAp];unfold iQ;rw[aI (decide_eq_true (by omega)),hU (μ hlt),aC];refine(rb1 hN _ (brs b) i _ _ _ _ _ _ _ _ _ _ _ g1 (by rw[θ,cp];omega) (by omega) (brs b)[i].2.2.1.length 0 N _ (by omega) (by omega) (ω _) g2).trans ih
theorem aPh(hN:5000<=N)(h:okK b):bV N b=some (nR b):=by unfold bV;exact rb0 hN b h (brs b).length 0 N (by omega) (by have:=h.2.1;omega)
theorem aBy{j:Int}{f:Int->Option α}(hj:j=(k:Int))(h:k<l.length):gd? (j<((l.length:Nat):Int)) (gn? l k f)=f (l.getD k 0):=by rw[aL (by omega),bBo (μ h),bc,μ h];rfl
def flk(x:Bk×Int):Int×(Int×(Int×(Int×(Int×(List Rn×Int))))):=(x.1.1,(x.1.2.1,(x.1.2.2.1,(x.1.2.2.2.1,(x.1.2.2.2.2.1,(x.1.2.2.2.2.2,x.2))))))
def bt(l:List Int):Option (List Rn)->Bk×Int
 |none=>(bkz,11)
 |some r=>(bkD l r,0)
theorem aZ8(r)(m:Nat):fS r (m+1)=fJ r (fS r m):=rfl
theorem aZ2(N m:Nat):fW N (m+1)=fG N (fW N m):=rfl
theorem gk1(r)(v:List Int)(ls:List Str)(n:Int)(i:Nat)(z1 z2 z3 z4 z5 z6 x y z w:Int)(acc e:List Rn)(hacc:acc.length<=1000000)(hi:i<=1000000):∀(k m:Nat) (l:List Int) (t:List Hl),l.length=2*k->k<m->t.length+k<=1000000->
  fS r m v l ls n (i:Int) z1 z2 z3 z4 z5 z6 acc x y z w e t=r v ls n ((i+1:Nat):Int) z1 z2 z3 z4 z5 z6 (acc++[(x,(y,(tbl l t,(z,w))))]) e
 |k,0,l,t,_,h,_=>by omega
 |0,m+1,l,t,hl,_,_=>by
  have:l=[]:=ft.1 (by omega);subst this;rw[aZ8];unfold fJ;rw[aK (by rfl),aC,aC,aL (by simp only[τ,ba];omega),bO (by omega) (by omega),aC,aC,show((i:Int)+1)=((i+1:Nat):Int) by omega];rfl
 |k+1,m+1,l,t,hl,hm,ht=>by
  obtain⟨a,b,q,rfl⟩:∃a b q,l=a::b::q:=by
   match l,hl with
   |a::b::q,_=>exact⟨a,b,q,rfl⟩
   |[],h=>simp at h
   |[_],h=>simp at h;omega
  have hq:q.length=2*k:=by simp only[τ]at hl;omega
  rw[aZ8];unfold fJ;rw[aI (decide_eq_true (by simp only[τ];omega)),sA (x:=a) (by decide) rfl,sA (x:=b) (by decide) rfl,aC,aL (by simp only[τ,ba];omega),aL (by simp only[τ];omega),aL (ω _),aC,aC,aC];have e2:c9 ((a::b::q).length-2) (dj 2 (a::b::q))=q:=by show q.take (q.length+2-2)=q;rw[jv,List.take_length]
  rw[e2,gk1 r v ls n i z1 z2 z3 z4 z5 z6 x y z w acc e hacc hi k m q _ hq (by omega) (by simp only[κ,τ,ba];omega),tbl]
theorem gk0{N:Nat}(hN:20<=N)(v:List Int)(hv:v.length=6)(L:List Str)(hL:L.length<=1000000)(hp:∀x∈L,x.length<N/\x.length<=1000000):∀(k i m:Nat) (acc:List Rn),i+k=L.length->k<m->acc.length=i->
  fW N m v L ((L.length:Nat):Int) (i:Int) 0 0 0 0 0 0 acc []=some (flk (bt v (aD7 (L.drop i) acc)))
 |k,i,0,acc,_,h,_=>by omega
 |0,i,m+1,acc,hi,_,_=>by
  rw[aZ2];unfold fG;rw[aK (decide_eq_false (by omega)),cm (by omega),show(1:Int)=((1:Nat):Int)from rfl,kQ (d:=0) (by omega),show(2:Int)=((2:Nat):Int)from rfl,kQ (d:=0) (by omega),show(3:Int)=((3:Nat):Int)from rfl,kQ (d:=0) (by omega),show(4:Int)=((4:Nat):Int)from rfl,kQ (d:=0) (by omega),show(5:Int)=((5:Nat):Int)from rfl,kQ (d:=0) (by omega),aK6,aB,aC];rfl
 |k+1,i,m+1,acc,hi,hm,ha=>by
  have hlt:i<L.length:=by omega
  obtain⟨p1,p2⟩:=hp _ (dz hlt);rw[aZ2];unfold fG;rw[aI (decide_eq_true (by omega)),hU (μ hlt),aF8 _ (by omega) p1 p2,aB,gG hlt,aD7];unfold swp;dsimp only;generalize hg:L[i]=p at*;by_cases e:(aD p).2.2=0
  ·rw[pS e,aS];by_cases hu:(aD p).2.1=(p.length:Int)
   ·rw[pS hu,aS];by_cases h4:4<=(aD p).1.length
    ·rw[aI (decide_eq_true (by omega))];have e4:bx ((aD p).1.length:Int) 2=(((aD p).1.length%2:Nat):Int):=by rw[show(2:Int)=((2:Nat):Int)from rfl,<-gb]
     by_cases h2:(aD p).1.length%2=0
     ·rw[if_pos ⟨e,hu,h4,h2⟩,sH N (pS (by rw[e4];omega)),aB,nY,aC,aC,aC,aGw];dsimp only;have hl:(aD p).1.length<=p.length:=by
       rcases kA p with⟨_,u,_,_,h3,_⟩|g
       ·exact h3
       ·exact absurd e g
      rw[aBy (k:=0) (j:=0) rfl (by omega),aBy (k:=1) (j:=1) rfl (by omega),aBy (k:=2) (j:=2) rfl (by omega),aBy (k:=3) (j:=3) rfl (by omega),aL h4,aL (ω _),aC,aL (by omega),aC];have et:c9 ((aD p).1.length-4) (dj 4 (aD p).1)=(aD p).1.drop 4:=bf (by rw[aw];exact ω _);rw[et,gk1 _ v L _ i 0 0 0 0 0 0 _ _ _ _ acc [] (by omega) (by omega) (((aD p).1.length-4)/2) N _ [] (by rw[aw];omega) (by omega) (by rw[ba];omega)];exact gk0 hN v hv L hL hp k (i+1) m _ (by omega) (by omega) (by simp only[κ,τ,ba];omega)
     ·rw[if_neg (fun q=>h2 q.2.2.2),jY N (pZ (by rw[e4];omega)),aB,lE,kC,aB,aC,nO,vY];rfl
    ·rw[aK (decide_eq_false (by omega)),if_neg (fun q=>h4 q.2.2.1),jY N rfl,aB,lE,kC,aB,aC,nO,vY];rfl
   ·rw[pZ hu,aR,if_neg (fun q=>hu q.2.1),jY N rfl,aB,lE,kC,aB,aC,nO,vY];rfl
  ·rw[pZ e,aR,if_neg (fun q=>e q.1),jY N rfl,aB,lE,kC,aB,aC,nO,vY];rfl
theorem aBn(s:Str)(hN:20<=N)(hs:s.length<N)(hb:s.length<=1000000):dJ N s=some (flk (gbl s)):=by
 unfold dJ gbl;rw[show(6:Int)=((6:Nat):Int)from rfl,aIv s 3 6 true (by omega) hs hb (by omega),aB];cases hh:hd s 3 6 true with
 |none=>
  unfold oS;rw[lE,kC,aB];rfl
 |some v=>
  obtain⟨g1,g2,g3,g4⟩:=aHf hh;unfold oS;rw[nY];have:=gk0 hN v.1 g1 v.2 (by omega) (fun x hx=>by have:=g4 x hx;omega) v.2.length 0 N [] (by omega) (by omega) rfl;refine this.trans (congrArg (fun x=>some (flk x)) ?_);rw[de];dsimp only;cases aD7 v.2 []<;>rfl
def rr:List Str->List Rn->Option (List Rn)
 |[],acc=>some acc
 |p::r,acc=>if(aD p).2.2=0/\4<=(aD p).1.length/\(aD p).1.length%2=0 then rr r (acc++[rnD (aD p).1])else none
def aRp(x:Bk×Int):Int×(Int×(Int×(Int×(Int×(Int×List Rn))))):=(x.1.1,(x.1.2.1,(x.1.2.2.1,(x.1.2.2.2.1,(x.1.2.2.2.2.1,(x.2,x.1.2.2.2.2.2))))))
def bE9(s:Str)(x1 x2 x3 x4 x5:Int):Option (List Rn)->Bk×Int
 |none=>(bkz,11)
 |some q=>if nR (x1,(x2,(x3,(x4,(x5,q)))))=s then((x1,(x2,(x3,(x4,(x5,q))))),0)else(bkz,11)
def aXz(l:List Rn):Prop:=∀r∈l,r.2.2.1.length<=1000/\∀x∈rnI r,I64 x
theorem aUp{p:Str}(hp:p.length<=1000)(e:(aD p).2.2=0)(h4:4<=(aD p).1.length)(h2:(aD p).1.length%2=0):(rnD (aD p).1).2.2.1.length<=1000/\∀x∈rnI (rnD (aD p).1),I64 x:=by
 have l1:=iP (rnD (aD p).1);rw[aQ7 h4 h2]at l1|-;rcases kA p with⟨_,u,_,_,h3,h5⟩|g
 ·exact⟨by omega,h5⟩
 ·exact absurd e g
theorem bAg:∀(L:List Str) (acc q:List Rn),aXz acc->(∀x∈L,x.length<=1000)->rr L acc=some q->aXz q/\q.length=acc.length+L.length
 |[],acc,q,ha,_,h=>by cases h;exact⟨ha,rfl⟩
 |p::r,acc,q,ha,hp,h=>by
  rw[rr]at h;split at h
  ·rename_i hh;have:=bAg r _ q (fun x hx=>by
    rcases dh.1 hx with hx|hx
    ·exact ha x hx
    ·rw[bk.1 hx];exact aUp (hp p (by simp)) hh.1 hh.2.1 hh.2.2) (fun x hx=>hp x (by simp[hx])) h
   refine⟨this.1,?_⟩;rw[this.2];simp only[κ,τ,ba];omega
  ·cases h
theorem aOf:∀(l acc:List Rn),aXz l->rr (l.map fun r=>cC (rnI r)) acc=some (acc++l)
 |[],acc,_=>by rw[υ];rfl
 |r::l,acc,h=>by obtain⟨h1,h2⟩:=h r (by simp);rw[ct,rr,uK h2 (by rw[iP];omega),if_pos ⟨rfl,by rw[iP];omega,by rw[iP];omega⟩,bBb,aOf l _ (fun q hq=>h q (by simp[hq])),π];rfl
theorem aT9(r)(m:Nat):eN r (m+1)=eL r (eN r m):=rfl
theorem aVl(N m:Nat):dD N (m+1)=eJ N (dD N m):=rfl
theorem bFq(r)(s:Str)(L:List Str)(i:Nat)(f1 f2 f3 f4 f5 x y z w:Int)(l:List Int)(acc:List Rn)(hacc:acc.length<=1000000)(hi:i<=1000000)(hl:l.length<=1000000):∀(k j m:Nat) (t:List Hl),l.length=j+2*k->k<m->t.length+k<=1000000->
  eN r m s (i:Int) (j:Int) 0 0 0 0 0 0 0 0 0 0 0 11 L f1 f2 f3 f4 f5 l x y z w [] [] acc t=r s ((i+1:Nat):Int) 0 0 0 0 0 0 0 0 0 0 0 11 L f1 f2 f3 f4 f5 [] [] (acc++[(x,(y,(tbl (l.drop j) t,(z,w))))])
 |k,j,0,t,_,h,_=>by omega
 |0,j,m+1,t,hj,_,_=>by
  rw[aT9];unfold eL;rw[aK (decide_eq_false (by omega)),aC,aC,aL (by simp only[τ,ba];omega),bO (by omega) (by omega),aC,aC,aC,aC,show((i:Int)+1)=((i+1:Nat):Int) by omega,cm (by omega)];rfl
 |k+1,j,m+1,t,hj,hm,ht=>by
  have l0:j<l.length:=by omega
  have l1:j+1<l.length:=by omega
  rw[aT9];unfold eL;rw[aI (decide_eq_true (by omega)),aOg (μ l0),bO (by omega) (by omega),show((j:Int)+1)=((j+1:Nat):Int) by omega,aOg (μ l1),aC,aL (by simp only[τ,ba];omega),bO (by omega) (by omega),aC,aC,aC,aC,aC,aC,show((j:Int)+2)=((j+2:Nat):Int) by omega,bFq r s L i f1 f2 f3 f4 f5 x y z w l acc hacc hi hl k (j+2) m _ (by omega) (by omega) (by simp only[κ,τ,ba];omega),gG l0,gG l1,tbl]
theorem bFg{N:Nat}(hN:5000<=N)(s:Str)(x1 x2 x3 x4 x5:Int)(hI:∀x∈[3,x1,x2,x3,x4,x5],I64 x)(L:List Str)(hL:L.length<=1000)(hp:∀x∈L,x.length<=1000):∀(k i m:Nat) (acc:List Rn),i+k=L.length->k<m->acc.length=i->aXz acc->
  dD N m s (i:Int) 0 0 0 0 0 0 0 0 0 0 0 11 L x1 x2 x3 x4 x5 [] [] acc=some (aRp (bE9 s x1 x2 x3 x4 x5 (rr (L.drop i) acc)))
 |k,i,0,acc,_,h,_,_=>by omega
 |0,i,m+1,acc,hi,_,ha,hok=>by
  rw[aVl];unfold eJ;rw[aK (decide_eq_false (by omega)),aC,cm (by omega)];have ok:okK (x1,(x2,(x3,(x4,(x5,acc))))):=⟨hI,by show acc.length<=_;omega,hok⟩;rw[aPh hN ok,aB];show _=some (aRp (if nR (x1,(x2,(x3,(x4,(x5,acc)))))=s then((x1,(x2,(x3,(x4,(x5,acc))))),0)else(bkz,11)));by_cases he:nR (x1,(x2,(x3,(x4,(x5,acc)))))=s
  ·rw[bCc he,aR,aC,if_pos he];rfl
  ·rw[aTm he,aS,aC,if_neg he];rfl
 |k+1,i,m+1,acc,hi,hm,ha,hok=>by
  have hlt:i<L.length:=by omega
  have p2:=hp _ (dz hlt);rw[aVl];unfold eJ;rw[aI (decide_eq_true (by omega)),aOg (μ hlt),xR _ (by omega) (by omega) (by omega),aB,gG hlt,rr];unfold swp;dsimp only;generalize hg:L[i]=p at*;by_cases e:(aD p).2.2=0
  ·have hl:(aD p).1.length<=p.length:=by
    rcases kA p with⟨_,u,_,_,h3,_⟩|g
    ·exact h3
    ·exact absurd e g
   rw[kV e,aR];by_cases h4:4<=(aD p).1.length
   ·rw[aK (decide_eq_false (by omega)),aC,aC,aC,aC,aC,aB];dsimp only;have e4:bx ((aD p).1.length:Int) 2=(((aD p).1.length%2:Nat):Int):=by rw[show(2:Int)=((2:Nat):Int)from rfl,<-gb]
    by_cases h2:(aD p).1.length%2=0
    ·rw[if_pos ⟨e,h4,h2⟩,kV (show bx ((aD p).1.length:Int) 2=0 by rw[e4];omega),aR];rw[aBy (k:=0) (j:=0) rfl (by omega),aBy (k:=1) (j:=1) rfl (by omega),aBy (k:=2) (j:=2) rfl (by omega),aBy (k:=3) (j:=3) rfl (by omega),aC,aC,aC,aC,aC];rw[show(4:Int)=((4:Nat):Int)from rfl,bFq _ s L i x1 x2 x3 x4 x5 _ _ _ _ _ acc (by omega) (by omega) (by omega) (((aD p).1.length-4)/2) 4 N [] (by omega) (by omega) (by rw[ba];omega)];refine bFg hN s x1 x2 x3 x4 x5 hI L hL hp k (i+1) m _ (by omega) (by omega) (by simp only[κ,τ,ba];omega) fun x hx=>?_;rcases dh.1 hx with hx|hx
     ·exact hok x hx
     ·rw[bk.1 hx];exact aUp p2 e h4 h2
    ·rw[if_neg (fun q=>h2 q.2.2),kP (show bx ((aD p).1.length:Int) 2≠0 by rw[e4];omega),aS,aC];rfl
   ·rw[aI (decide_eq_true (by omega)),aC,aC,aC,aC,aC,aB];dsimp only;rw[aS,aC,if_neg (fun q=>h4 q.2.1)];rfl
  ·rw[kP e,aS,aC,aC,aC,aC,aC,aB];dsimp only;rw[aS,aC,if_neg (fun q=>e q.1)];rfl
theorem bAe(h:(gbl s).2≠0):gbl s=(bkz,11):=by
 rcases bFx s with g|g
 ·exact absurd g h
 ·exact g
theorem gK(ok:okK b):aD (nR b)=(bl b,((cC (bl b)).length:Int),0)/\(cO ((nR b).drop (cC (bl b)).length)).1=(brs b).map (fun r=>cC (rnI r))/\(cO ((nR b).drop (cC (bl b)).length)).2.2=0:=by have hs:=(aO6 ok).1;obtain⟨h1,h2,h3⟩:=ok;have e:=aA3 (l:=(brs b).map fun r=>cC (rnI r)) (fun x hx=>by have:=hs x hx;omega) (by rw[θ];omega) [];rw[υ]at e;refine⟨mK h1 (by show 6<=_;omega) _,?_⟩;unfold nR;rw[kD,e];exact⟨rfl,rfl⟩
theorem aH6(s:Str)(hN:5000<=N)(hb:s.length<=1000):eC N s=some (aRp (gbl s)):=by
 have neg:∀P:Prop,(∀v,okK v->s=nR v->gbl s=(v,0)->¬P)->P->gbl s=(bkz,11):=fun P h hP=>bAe fun h0=>by obtain⟨g1,g2⟩:=aQb hb h0;exact h _ g2 g1 (by rw[<-h0]) hP
 unfold eC;rw[xR s (by omega) (by omega) (by omega),aB];unfold swp;dsimp only;rcases kA s with⟨e,u,h1,h2,h3,h4⟩|g
 ·rw[kV e,aR,aC,aB];dsimp only;by_cases hl:(aD s).1.length=6
  ·rw[kV (show((aD s).1.length:Int)=6 by omega),aR,h1,aL (by omega),χ,aL h2,aL (ω _),aE9,aBm _ (by omega) (by rw[aw];omega) (by rw[aw];omega),aB];unfold swp;dsimp only;rcases xB (s.drop u)with⟨e',u',g1,g2,g3,g4⟩|g
   ·rw[aw]at g3;rw[kV e',aR];have hV:∀v,okK v->s=nR v->aD s=(bl v,(u:Int),0)/\(cO (s.drop u)).1=(brs v).map (fun r=>cC (rnI r)):=fun v ok hv=>by
     obtain⟨i1,i2,i3⟩:=gK ok;rw[<-hv]at i1 i2;have hu:u=(cC (bl v)).length:=by rw[i1]at h1;exact(Int.ofNat.inj h1).symm
     rw[<-hu]at i1 i2;exact⟨i1,i2⟩
    have h8:=bAd hl;have hI:=h4;generalize hG:(cO (s.drop u)).1=L at*;rw[h8]at hI|-;have hVL:∀v,okK v->s=nR v->(aD s).1=bl v:=fun v ok hv=>by rw[(hV v ok hv).1]
    rw[h8]at hVL;generalize(aD s).1.getD 0 0=a0 at*;generalize(aD s).1.getD 1 0=a1 at*;generalize(aD s).1.getD 2 0=a2 at*;generalize(aD s).1.getD 3 0=a3 at*;generalize(aD s).1.getD 4 0=a4 at*;generalize(aD s).1.getD 5 0=a5 at*;show gl? L.length L (dD N N s ((0:Nat):Int) 0 0 0 0 0 0 0 0 0 0 0 11 L a1 a2 a3 a4 a5 [] [] [])=_;rw[aC];have hI':∀x∈[3,a1,a2,a3,a4,a5],I64 x:=fun x hx=>by
     rcases br.1 hx with rfl|hx
     ·exact⟨by decide,by decide⟩
     ·exact hI x (br.2 (.inr hx))
    have hp:∀x∈L,x.length<=1000:=fun x hx=>by have:=g4 x hx;rw[aw]at this;omega
    rw[bFg hN s a1 a2 a3 a4 a5 hI' L (by omega) hp L.length 0 N [] (by omega) (by omega) rfl (fun p hp=>(dc hp).elim),de];refine congrArg (fun x=>some (aRp x)) ?_;cases hq:rr L []with
    |none=>
     refine(neg True (fun v ok hv _ _=>?_) trivial).symm;have:=(hV v ok hv).2;rw[this,aOf _ _ ok.2.2]at hq;cases hq
    |some q=>
     obtain⟨q1,q2⟩:=bAg L [] q (fun p hp=>(dc hp).elim) hp hq;have ok:okK (a1,(a2,(a3,(a4,(a5,q))))):=⟨hI',by show q.length<=_;rw[q2,ba];omega,q1⟩;unfold bE9;dsimp only;by_cases he:nR (a1,(a2,(a3,(a4,(a5,q)))))=s
     ·rw[if_pos he,<-he,aYv ok]
     ·rw[if_neg he];refine(neg True (fun v okv hv _ _=>he ?_) trivial).symm;have e1:=hVL v okv hv;have e2:=(hV v okv hv).2;rw[e2,aOf _ _ okv.2.2,cn]at hq;have e3:=Option.some.inj hq;rw[hv];have e5:bl (a1,(a2,(a3,(a4,(a5,q)))))=bl v:=by show 3::_=3::_;exact congrArg (fun t=>3::t) (congrArg List.tail e1)
      unfold nR;rw[e5,<-e3]
   ·rw[kP g,aS,aC,neg ((cO (s.drop u)).2.2≠0) (fun v ok hv _ h=>h (by
     obtain⟨i1,i2,i3⟩:=gK ok;rw[<-hv]at i1 i3;have hu:u=(cC (bl v)).length:=by rw[i1]at h1;exact(Int.ofNat.inj h1).symm
     rw[hu];exact i3)) g]
    rfl
  ·rw[kP (show((aD s).1.length:Int)≠6 by omega),aS,aC,neg ((aD s).1.length≠6) (fun v ok hv _ h=>h (by rw[hv,(gK ok).1];rfl)) hl];rfl
 ·rw[kP g,aS,aC,aB];dsimp only;rw[aS,aC,neg ((aD s).2.2≠0) (fun v ok hv _ h=>h (by rw[hv,(gK ok).1])) g];rfl
def lp(y:Int):Bool:=decide (bx y 400=0\/(bx y 4=0/\bx y 100≠0))
def dy(b:Bool):Int:=if b then 366 else 365
theorem aVa(N:Nat)(y:Int):eW N y=some (lp y):=by
 unfold eW lp;by_cases h4:bx y 4=0
 ·rw[pS h4,aS];by_cases h1:bx y 100=0
  ·rw[kV h1,aR,aB];refine congrArg some ?_;rw[dv,beq_iff_eq,decide_eq_true_eq];omega
  ·rw[kP h1,aS,aB,decide_eq_true (.inr ⟨h4,h1⟩)]
 ·rw[pZ h4,aR,aB];refine congrArg some ?_;rw[dv,beq_iff_eq,decide_eq_true_eq];omega
theorem aT5(N:Nat)(y:Int):jL N y=some (lp y):=by
 unfold jL lp;by_cases h0:bx y 400=0
 ·rw[pS h0,aS,decide_eq_true (.inl h0)]
 ·rw[pZ h0,aR];by_cases h4:bx y 4=0
  ·rw[pS h4,aS,aB];refine congrArg some ?_;rw[dv,bne_iff_ne,decide_eq_true_eq];omega
  ·rw[pZ h4,aR,aB,decide_eq_false (by omega)]
theorem bCh(N:Nat)(y:Int):eT N y=some (dy (lp y)):=by unfold eT;rw[aVa,aB];cases lp y<;>rfl
theorem bEb(N:Nat)(y:Int):jW N y=some (dy (lp y)):=by unfold jW;rw[aT5,aB];cases lp y<;>rfl
def ml(b:Bool):Nat->Int
 |2=>if b then 29 else 28
 |4=>30
 |6=>30
 |9=>30
 |11=>30
 |_=>31
theorem bFz(N:Nat)(y:Int)(m:Nat)(h1:1<=m)(h2:m<=12):dL N y (m:Int)=some (ml (lp y) m):=by unfold dL;rw[aVa];rcases(by omega:m=1\/m=2\/m=3\/m=4\/m=5\/m=6\/m=7\/m=8\/m=9\/m=10\/m=11\/m=12)with h|h|h|h|h|h|h|h|h|h|h|h<;>subst h<;>cases lp y<;>rfl
theorem bGf(N:Nat)(y:Int)(m:Nat)(h1:1<=m)(h2:m<=12):fY N y (m:Int)=some (ml (lp y) m):=by unfold fY;rw[aT5];rcases(by omega:m=1\/m=2\/m=3\/m=4\/m=5\/m=6\/m=7\/m=8\/m=9\/m=10\/m=11\/m=12)with h|h|h|h|h|h|h|h|h|h|h|h<;>subst h<;>cases lp y<;>rfl
def R(b:Bool):Nat->Int
 |0=>0
 |k+1=>ml b (12-k)+R b k
theorem bGg(b:Bool):R b 12=dy b:=by cases b<;>rfl
theorem aUa(b:Bool)(m:Nat):28<=ml b m/\ml b m<=31:=by unfold ml;split<;>(try split)<;>omega
theorem bG1(N m:Nat):fR N (m+1)=kK N (fR N m):=rfl
theorem bGt(N m:Nat):fV N (m+1)=kL N (fV N m):=rfl
theorem bGq(N m:Nat):jG N (m+1)=mX N (jG N m):=rfl
theorem bGs(N m:Nat):kJ N (m+1)=mQ N (kJ N m):=rfl
theorem bBi(N:Nat)(y:Int):∀(k m f:Nat) (d:Int),m+k=13->1<=m->0<=d->d<1000->d<R (lp y) k->k<f->∃r,fR N f d y (m:Int)=some (y,r)
 |k,m,0,d,_,_,_,_,_,h=>by omega
 |0,m,f+1,d,_,_,h0,_,h,_=>by have:d<0:=h;omega
 |k+1,m,f+1,d,hm,h1,h0,hd,h,hf=>by
  have hp:=aUa (lp y) m;rw[bG1];unfold kK;rw[bFz N y m h1 (by omega),aB];by_cases hh:d≥ml (lp y) m
  ·rw[aI (decide_eq_true hh),aB,bO (by omega) (by omega),bO (by omega) (by omega),show((m:Int)+1)=((m+1:Nat):Int) by omega];have e:R (lp y) (k+1)=ml (lp y) m+R (lp y) k:=by show ml (lp y) (12-k)+_=_;rw[show 12-k=m by omega]
   exact bBi N y k (m+1) f _ (by omega) (by omega) (by omega) (by omega) (by omega) (by omega)
  ·rw[aK (decide_eq_false hh),bO (by omega) (by omega)];exact⟨_,rfl⟩
theorem bAm(N:Nat)(y:Int):∀(k m f:Nat) (d:Int),m+k=13->1<=m->0<=d->d<1000->d<R (lp y) k->k<f->∃r,jG N f d 0 0 0 0 y (m:Int) 0 0=some (y,r)
 |k,m,0,d,_,_,_,_,_,h=>by omega
 |0,m,f+1,d,_,_,h0,_,h,_=>by have:d<0:=h;omega
 |k+1,m,f+1,d,hm,h1,h0,hd,h,hf=>by
  have hp:=aUa (lp y) m;rw[bGq];unfold mX;rw[bGf N y m h1 (by omega),aB];by_cases hh:d≥ml (lp y) m
  ·rw[aI (decide_eq_true hh),aB,bO (by omega) (by omega),bO (by omega) (by omega),show((m:Int)+1)=((m+1:Nat):Int) by omega];have e:R (lp y) (k+1)=ml (lp y) m+R (lp y) k:=by show ml (lp y) (12-k)+_=_;rw[show 12-k=m by omega]
   exact bAm N y k (m+1) f _ (by omega) (by omega) (by omega) (by omega) (by omega) (by omega)
  ·rw[aK (decide_eq_false hh),bO (by omega) (by omega)];exact⟨_,rfl⟩
def yr:Nat->Int->Int->Int
 |0,y,_=>y
 |n+1,y,d=>if d≥dy (lp y)then yr n (y+1) (d-dy (lp y))else y
theorem bE6(b:Bool):365<=dy b/\dy b<=366:=by cases b<;>decide
theorem bE0{N:Nat}(hN:20<=N):∀(n f:Nat) (y d:Int),0<=y->y+n<=1000000->0<=d->d<365*n->n<f->n<=10000->∃r,fV N f d y 1=some (yr n y d,r)
 |n,0,y,d,_,_,_,_,h,_=>by omega
 |0,f+1,y,d,_,_,h0,h,_,_=>by omega
 |n+1,f+1,y,d,hy,hyn,h0,h,hf,hn=>by
  obtain⟨b1,b2⟩:=bE6 (lp y);rw[bGt,yr];unfold kL;rw[bCh,aB];by_cases hh:d≥dy (lp y)
  ·rw[aI (decide_eq_true hh),aB,bO (by omega) (by omega),bO (by omega) (by omega),if_pos hh];exact bE0 hN n f _ _ (by omega) (by omega) (by omega) (by omega) (by omega) (by omega)
  ·rw[aK (decide_eq_false hh),if_neg hh];exact bBi N y 12 1 N d rfl (by omega) h0 (by omega) (by rw[bGg];omega) (by omega)
theorem bFv{N:Nat}(hN:20<=N):∀(n f:Nat) (y d:Int),0<=y->y+n<=1000000->0<=d->d<365*n->n<f->n<=10000->∃r,kJ N f d 0 0 0 0 y 1 0 0=some (yr n y d,r)
 |n,0,y,d,_,_,_,_,h,_=>by omega
 |0,f+1,y,d,_,_,h0,h,_,_=>by omega
 |n+1,f+1,y,d,hy,hyn,h0,h,hf,hn=>by
  obtain⟨b1,b2⟩:=bE6 (lp y);rw[bGs,yr];unfold mQ;rw[bEb,aB];by_cases hh:d≥dy (lp y)
  ·rw[aI (decide_eq_true hh),aB,bO (by omega) (by omega),bO (by omega) (by omega),if_pos hh];exact bFv hN n f _ _ (by omega) (by omega) (by omega) (by omega) (by omega) (by omega)
  ·rw[aK (decide_eq_false hh),if_neg hh];exact bAm N y 12 1 N d rfl (by omega) h0 (by omega) (by rw[bGg];omega) (by omega)
def cy(d:Int):Int:=if d<0\/d>14609 then 0 else yr 41 2000 d
theorem bCq(hN:100<=N)(d:Int):∃r,cS N d=some (cy d,r):=by
 unfold cS cy;by_cases h:d<0
 ·rw[aI (decide_eq_true h),aB,if_pos (.inl h)];exact⟨_,rfl⟩
 ·rw[aK (decide_eq_false h),aB];by_cases h':d>14609
  ·rw[aI (decide_eq_true h'),if_pos (.inr h')];exact⟨_,rfl⟩
  ·rw[aK (decide_eq_false h'),if_neg (by omega)];exact bE0 (by omega) 41 N 2000 d (by omega) (by omega) (by omega) (by omega) (by omega) (by omega)
theorem bB0(hN:100<=N)(d:Int):∃r,mE N d=some (cy d,r):=by
 unfold mE cy;by_cases h:d<0
 ·rw[aI (decide_eq_true h),aB,if_pos (.inl h)];exact⟨_,rfl⟩
 ·rw[aK (decide_eq_false h),aB];by_cases h':d>14609
  ·rw[aI (decide_eq_true h'),if_pos (.inr h')];exact⟨_,rfl⟩
  ·rw[aK (decide_eq_false h'),if_neg (by omega)];exact bFv (by omega) 41 N 2000 d (by omega) (by omega) (by omega) (by omega) (by omega) (by omega)
def pl(g t:Int):Int×TL:=if g<0\/g≥40\/t<0\/t≥1402560 then(0,(0,3))else(g,(cy (dk t 96),0))
def wh(s:Str):Int×TL:=
 if(grd s).2=0 then pl (grd s).1.1 (grd s).1.2.2.1
 else if(gvr s).2=0 then pl (gvr s).1.2.1 (gvr s).1.2.2.2.2.1
 else if(gbl s).2=0 then pl (gbl s).1.1 (gbl s).1.2.2.1
 else(0,(0,11))
theorem aW5(hN:100<=N)(g t:Int){γ:Type}(K:Int×TL->Option γ):
  (bd? (if? (decide (g<0)) (some (g,t,true)) (if? (decide (g≥40)) (some (g,t,true)) (if? (decide (t<0)) (some (g,t,true)) (some (g,t,decide (t≥1402560)))))) fun w7=>if? (w7.2.2) (K (0,(0,3))) (ck .i64 (dk w7.2.1 96) (bd? (cS N (dk w7.2.1 96)) fun v8=>K (w7.1,(v8.1,0)))))=K (pl g t):=by
 unfold pl;by_cases h1:g<0
 ·rw[aI (decide_eq_true h1),aB,if_pos (.inl h1)];rfl
 ·rw[aK (decide_eq_false h1)];by_cases h2:g≥40
  ·rw[aI (decide_eq_true h2),aB,if_pos (.inr (.inl h2))];rfl
  ·rw[aK (decide_eq_false h2)];by_cases h3:t<0
   ·rw[aI (decide_eq_true h3),aB,if_pos (.inr (.inr (.inl h3)))];rfl
   ·rw[aK (decide_eq_false h3),aB];dsimp only;by_cases h4:t≥1402560
    ·rw[aI (decide_eq_true h4),if_pos (.inr (.inr (.inr h4)))]
    ·have hd:0<=dk t 96/\dk t 96<=t:=by obtain⟨n,rfl⟩:=Int.eq_ofNat_of_zero_le (show 0<=t by omega);rw[show(96:Int)=((96:Nat):Int)from rfl,<-j7];omega
     obtain⟨r,hr⟩:=bCq hN (dk t 96);rw[aK (decide_eq_false h4),if_neg (by omega),bO (by omega) (by omega),hr,aB]
theorem aIt(hN:100<=N)(g t:Int):fA N g t=some (pl g t):=by
 unfold fA pl;by_cases h1:g<0
 ·rw[aI (decide_eq_true h1),aB,if_pos (.inl h1)];rfl
 ·rw[aK (decide_eq_false h1)];by_cases h2:g>39
  ·rw[aI (decide_eq_true h2),aB,if_pos (.inr (.inl (by omega)))];rfl
  ·rw[aK (decide_eq_false h2)];by_cases h3:t<0
   ·rw[aI (decide_eq_true h3),aB,if_pos (.inr (.inr (.inl h3)))];rfl
   ·rw[aK (decide_eq_false h3),aB];dsimp only;by_cases h4:t≥1402560
    ·rw[aI (decide_eq_true h4),if_pos (.inr (.inr (.inr h4)))]
    ·have hd:0<=dk t 96/\dk t 96<=t:=by obtain⟨n,rfl⟩:=Int.eq_ofNat_of_zero_le (show 0<=t by omega);rw[show(96:Int)=((96:Nat):Int)from rfl,<-j7];omega
     obtain⟨r,hr⟩:=bB0 hN (dk t 96);rw[aK (decide_eq_false h4),if_neg (by omega),bO (by omega) (by omega),hr,aB]
theorem aZv(N m:Nat):dE N (m+1)=fX N (dE N m):=rfl
theorem k_1(s:Str)(hN:5000<=N)(hb:s.length<=1000):jT N s=some ((grd s).1.1,((grd s).1.2.2.1,(grd s).2)):=by unfold jT;rw[vK s (by omega) (by omega) (by omega),aB]
theorem k_2(s:Str)(hN:5000<=N)(hb:s.length<=1000):jS N s=some ((gvr s).1.2.1,((gvr s).1.2.2.2.2.1,(gvr s).2)):=by unfold jS;rw[vN s (by omega) (by omega) (by omega),aB];rfl
theorem k_3(s:Str)(hN:5000<=N)(hb:s.length<=1000):jK N s=some ((gbl s).1.1,((gbl s).1.2.2.1,(gbl s).2)):=by unfold jK;rw[aBn s (by omega) (by omega) (by omega),aB];rfl
theorem aUv(s:Str)(hN:5000<=N)(hb:s.length<=1000):eO N s=some (wh s):=by
 obtain⟨m,rfl⟩:∃m,N=m+4:=⟨N-4,by omega⟩;generalize hM:m+4=M at*;unfold eO qQ;rw[aB];have e3:dE M (m+1) s 3=some (0,(0,11)):=by rw[aZv];rfl
 have e2:dE M (m+2) s 2=some (if(gbl s).2=0 then pl (gbl s).1.1 (gbl s).1.2.2.1 else(0,(0,11))):=by
  rw[aZv];unfold fX;rw[aI (by rfl),aK (by rfl),aK (by rfl),aI (by rfl),k_3 s hN hb,aB];dsimp only;by_cases h:(gbl s).2=0
  ·rw[kV h,aR,if_pos h,aW5 (by omega) _ _ (fun x=>jE (some x)),nO,vY]
  ·rw[kP h,aS,if_neg h,aGw];exact(bO (n:=2+1) (by decide) (by decide)).trans e3
 have e1:dE M (m+3) s 1=some (if(gvr s).2=0 then pl (gvr s).1.2.1 (gvr s).1.2.2.2.2.1 else if(gbl s).2=0 then pl (gbl s).1.1 (gbl s).1.2.2.1 else(0,(0,11))):=by
  rw[aZv];unfold fX;rw[aI (by rfl),aK (by rfl),aI (by rfl),k_2 s hN hb,aB];dsimp only;by_cases h:(gvr s).2=0
  ·rw[kV h,aR,if_pos h,aW5 (by omega) _ _ (fun x=>jE (some x)),nO,vY]
  ·rw[kP h,aS,if_neg h,aGw];exact(bO (n:=1+1) (by decide) (by decide)).trans e2
 have e0:dE M (m+4) s 0=some (wh s):=by
  rw[aZv];unfold fX;rw[aI (by rfl),aI (by rfl),k_1 s hN hb,aB];unfold wh;dsimp only;by_cases h:(grd s).2=0
  ·rw[kV h,aR,if_pos h,aW5 (by omega) _ _ (fun x=>jE (some x)),nO,vY]
  ·rw[kP h,aS,if_neg h,aGw];exact(bO (n:=0+1) (by decide) (by decide)).trans e1
 rw[hM]at e0;exact e0
theorem bCw(s:Str)(hN:5000<=N)(hb:s.length<=1000):lC N s=some (wh s):=by
 unfold lC wh;rw[aBl s (by omega) (by omega) (by omega),aB];by_cases h:(grd s).2=0
 ·rw[pS h,aS,aIt (by omega),aB,if_pos h]
 ·rw[pZ h,aR,if_neg h,aBz s (by omega) (by omega) (by omega),aB];unfold fl2;dsimp only;by_cases h:(gvr s).2=0
  ·rw[pS h,aS,aIt (by omega),aB,if_pos h]
  ·rw[pZ h,aR,if_neg h,aH6 s (by omega) (by omega),aB];unfold aRp;dsimp only;by_cases h:(gbl s).2=0
   ·rw[pS h,aS,aIt (by omega),aB,if_pos h]
   ·rw[pZ h,aR,if_neg h]
theorem bFy(m:Nat):dX (m+1)=dY (dX m):=rfl
theorem aRb(l:List Pt)(hl:l.length<=20):∀(k i m:Nat),i+k=l.length->k<m->∃b,dX m (i:Int) l=some b/\(b=true->∀p∈l.drop i,p.2.2.1.length<=12/\p.2.2.2.length<=12)
 |k,i,0,_,h=>by omega
 |0,i,m+1,hi,_=>by
  rw[bFy];unfold dY;rw[aK (decide_eq_false (by omega)),cm (by omega)];exact⟨_,rfl,fun _ p hp=>(dc hp).elim⟩
 |k+1,i,m+1,hi,hm=>by
  have hlt:i<l.length:=by omega
  obtain⟨b,h1,h2⟩:=aRb l hl k (i+1) m (by omega) (by omega);rw[bFy];unfold dY;rw[aI (decide_eq_true (by omega)),hU (μ hlt),gG hlt];by_cases ha:l[i].2.2.1.length<=12
  ·rw[aK (decide_eq_false (by omega)),hU (μ hlt),aB];dsimp only;by_cases hc:l[i].2.2.2.length<=12
   ·rw[aK (decide_eq_false (by omega)),bO (by omega) (by omega),show((i:Int)+1)=((i+1:Nat):Int) by omega,h1];refine⟨b,rfl,fun hb p hp=>?_⟩;rcases br.1 hp with rfl|hp
    ·exact⟨ha,hc⟩
    ·exact h2 hb p hp
   ·rw[aI (decide_eq_true (by omega))];exact⟨_,rfl,fun h=>by cases h⟩
  ·rw[aI (decide_eq_true (by omega)),aB];exact⟨_,rfl,fun h=>by cases h⟩
theorem bEy(m:Nat):dB (m+1)=eK (dB m):=rfl
theorem aPp(l:List Rn)(hl:l.length<=12)(f1 f2 f3 f4 f5:Int):∀(k i m:Nat),i+k=l.length->k<m->∃b,dB m (i:Int) f1 f2 f3 f4 f5 l=some b/\(b=true->∀p∈l.drop i,p.2.2.1.length<=20)
 |k,i,0,_,h=>by omega
 |0,i,m+1,hi,_=>by
  rw[bEy];unfold eK;rw[aK (decide_eq_false (by omega)),cm (by omega)];exact⟨_,rfl,fun _ p hp=>(dc hp).elim⟩
 |k+1,i,m+1,hi,hm=>by
  have hlt:i<l.length:=by omega
  obtain⟨b,h1,h2⟩:=aPp l hl f1 f2 f3 f4 f5 k (i+1) m (by omega) (by omega);rw[bEy];unfold eK;rw[aI (decide_eq_true (by omega)),hU (μ hlt),gG hlt];by_cases ha:l[i].2.2.1.length<=20
  ·rw[aK (decide_eq_false (by omega)),bO (by omega) (by omega),show((i:Int)+1)=((i+1:Nat):Int) by omega,h1];refine⟨b,rfl,fun hb p hp=>?_⟩;rcases br.1 hp with rfl|hp
   ·exact ha
   ·exact h2 hb p hp
  ·rw[aI (decide_eq_true (by omega))];exact⟨_,rfl,fun h=>by cases h⟩
def bDe(v:Vr)(b:Bk):Prop:=(vp v).length<=20/\(∀p∈vp v,p.2.2.1.length<=12/\p.2.2.2.length<=12)/\(brs b).length<=12/\∀r∈brs b,r.2.2.1.length<=20
theorem aVi(hN:100<=N)(v:Vr)(b:Bk):∃c,iF N v b=some c/\(c=true->bDe v b):=by
 unfold iF jV;by_cases h:(vp v).length<=20
 ·obtain⟨c,h1,h2⟩:=aRb (vp v) h (vp v).length 0 N (by omega) (by omega);rw[aK (decide_eq_false (by show¬(((vp v).length:Int)>20);omega)),show(0:Int)=((0:Nat):Int)from rfl,h1,aB];cases c with
  |false=>exact⟨false,rfl,fun h=>by cases h⟩
  |true=>
   rw[aS];unfold kU;by_cases h':(brs b).length<=12
   ·obtain⟨c,g1,g2⟩:=aPp (brs b) h' b.1 b.2.1 b.2.2.1 b.2.2.2.1 b.2.2.2.2.1 (brs b).length 0 N (by omega) (by omega);rw[aK (decide_eq_false (by show¬(((brs b).length:Int)>12);omega))];refine⟨c,?_,fun hc=>⟨h,h2 rfl,h',g2 hc⟩⟩;show bd? (bd? (dB N ((0:Nat):Int) b.1 b.2.1 b.2.2.1 b.2.2.2.1 b.2.2.2.2.1 (brs b)) _) _=_;rw[g1,aB,aB]
   ·rw[aI (decide_eq_true (by show((brs b).length:Int)>12;omega))];exact⟨false,rfl,fun h=>by cases h⟩
 ·rw[aI (decide_eq_true (by show((vp v).length:Int)>20;omega))];exact⟨false,rfl,fun h=>by cases h⟩
theorem aXm(hs:s.length<=1000):okV (gvr s).1:=by
 by_cases h:(gvr s).2=0
 ·exact(aRc (by omega) h).2
 ·rw[bAc h];refine⟨fun x hx=>?_,Nat.zero_le _,fun p hp=>(dc hp).elim⟩;have:x=2\/x=0:=by have hx:x∈[2,0,0,0,0,0,0,(0:Int)]:=hx;simp only[br,dc,or_false]at hx;omega
  rcases this with rfl|rfl<;>exact⟨by decide,by decide⟩
theorem aX0(hs:s.length<=1000):okK (gbl s).1:=by
 by_cases h:(gbl s).2=0
 ·exact(aQb hs h).2
 ·rw[bAe h];refine⟨fun x hx=>?_,Nat.zero_le _,fun p hp=>(dc hp).elim⟩;have:x=3\/x=0:=by have hx:x∈[3,0,0,0,0,(0:Int)]:=hx;simp only[br,dc,or_false]at hx;omega
  rcases this with rfl|rfl<;>exact⟨by decide,by decide⟩
theorem bCe(hN:5000<=N)(h:okV v):cV N v v=some true:=by unfold cV;have e:=aDe (N:=N) (by omega) h (by have:=h.2.1;omega);show bd? (bH N v) (fun v3=>bd? (bH N v) fun v4=>some (v3==v4))=_;rw[e,aB,aB,beq_self_eq_true]
theorem bDa(hN:5000<=N){v:Bk}(h:okK v):dO N v v=some true:=by unfold dO;have e:=aPh hN h;show bd? (bV N v) (fun v3=>bd? (bV N v) fun v4=>some (v3==v4))=_;rw[e,aB,aB,beq_self_eq_true]
theorem aU0{x:Str}:(!(x==x))=false:=by simp
theorem aUo:(x !=x)=false:=by simp
theorem yF:(x==x)=true:=by simp
abbrev Pk:=Rd×(Vr×Bk)
def okA(x:Pk):Prop:=okR x.1/\((∀y∈vl x.2.1,I64 y)/\∀p∈vp x.2.1,I64 p.1)/\(∀y∈bl x.2.2,I64 y)/\∀r∈brs x.2.2,∀y∈rnI r,I64 y
theorem aLr(hN:5000<=N)(hsan:gA N=some true)(x:Pk)(s:Str)(hx:okA x):bQ N x s=some true:=by
 obtain⟨hr,⟨hv1,hv2⟩,hb1,hb2⟩:=hx;obtain⟨c,hc1,hc2⟩:=aVi (N:=N) (by omega) x.2.1 x.2.2;unfold bQ;show bd? (bd? (iF N x.2.1 x.2.2) _) _=_;rw[hc1,aB];cases c with
 |false=>
  rw[Bool.not_false,aS,aB];dsimp only;rw[aS,hsan,aB]
 |true=>
  obtain⟨g1,g2,g3,g4⟩:=hc2 rfl;rw[fv,aR,aB];dsimp only;by_cases hs:s.length<=600
  ·have okv:okV x.2.1:=⟨hv1,by omega,fun p hp=>⟨hv2 p hp,by have:=(g2 p hp).1;omega,by have:=(g2 p hp).2;omega⟩⟩;have okk:okK x.2.2:=⟨hb1,by omega,fun p hp=>⟨by have:=g4 p hp;omega,hb2 p hp⟩⟩;rw[aK (decide_eq_false (by omega)),vK s (by omega) (by omega) (by omega),aB,aBl s (by omega) (by omega) (by omega),aB,vN s (by omega) (by omega) (by omega),aB,aBz s (by omega) (by omega) (by omega),aB,aBn s (by omega) (by omega) (by omega),aB,aH6 s (by omega) (by omega),aB,aUv s (by omega) (by omega),aB,bCw s (by omega) (by omega),aB];have w1:bG N (x.1.1,(x.1.2.1,(x.1.2.2.1,(x.1.2.2.2.1,(x.1.2.2.2.2.1,x.1.2.2.2.2.2)))))=some (aG1 x.1):=aN1 (by omega) hr;have w2:cU N (x.1.1,(x.1.2.1,(x.1.2.2.1,(x.1.2.2.2.1,(x.1.2.2.2.2.1,x.1.2.2.2.2.2)))))=some (aG1 x.1):=aLl (by omega) hr;have w3:fZ N (x.2.1.1,(x.2.1.2.1,(x.2.1.2.2.1,(x.2.1.2.2.2.1,(x.2.1.2.2.2.2.1,(x.2.1.2.2.2.2.2.1,(x.2.1.2.2.2.2.2.2.1,x.2.1.2.2.2.2.2.2.2)))))))=some (nU x.2.1):=aPc (by omega) okv (by show 4*(vp x.2.1).length<N;omega);have w4:bH N (x.2.1.1,(x.2.1.2.1,(x.2.1.2.2.1,(x.2.1.2.2.2.1,(x.2.1.2.2.2.2.1,(x.2.1.2.2.2.2.2.1,(x.2.1.2.2.2.2.2.2.1,x.2.1.2.2.2.2.2.2.2)))))))=some (nU x.2.1):=aDe (by omega) okv (by show 4*(vp x.2.1).length<N;omega);have w5:jP N (x.2.2.1,(x.2.2.2.1,(x.2.2.2.2.1,(x.2.2.2.2.2.1,(x.2.2.2.2.2.2.1,x.2.2.2.2.2.2.2)))))=some (nR x.2.2):=aWn (by omega) okk;have w6:bV N (x.2.2.1,(x.2.2.2.1,(x.2.2.2.2.1,(x.2.2.2.2.2.1,(x.2.2.2.2.2.2.1,x.2.2.2.2.2.2.2)))))=some (nR x.2.2):=aPh (by omega) okk;rw[w1,aB,w2,aB,aU0,aR,w3,aB,w4,aB,aU0,aR,w5,aB,w6,aB,aU0];unfold fl fl2 flk aRp;dsimp only;rw[aC,aC,aB];dsimp only;have v1:cV N ((gvr s).1.1,((gvr s).1.2.1,((gvr s).1.2.2.1,((gvr s).1.2.2.2.1,((gvr s).1.2.2.2.2.1,((gvr s).1.2.2.2.2.2.1,((gvr s).1.2.2.2.2.2.2.1,(gvr s).1.2.2.2.2.2.2.2))))))) ((gvr s).1.1,((gvr s).1.2.1,((gvr s).1.2.2.1,((gvr s).1.2.2.2.1,((gvr s).1.2.2.2.2.1,((gvr s).1.2.2.2.2.2.1,((gvr s).1.2.2.2.2.2.2.1,(gvr s).1.2.2.2.2.2.2.2)))))))=some true:=bCe hN (aXm (by omega));have v2:dO N ((gbl s).1.1,((gbl s).1.2.1,((gbl s).1.2.2.1,((gbl s).1.2.2.2.1,((gbl s).1.2.2.2.2.1,(gbl s).1.2.2.2.2.2))))) ((gbl s).1.1,((gbl s).1.2.1,((gbl s).1.2.2.1,((gbl s).1.2.2.2.1,((gbl s).1.2.2.2.2.1,(gbl s).1.2.2.2.2.2)))))=some true:=bDa hN (aX0 (by omega));rw[aR,aUo,aR];have ha:∀a b c d e f:Int,(!(pQ [1,1,1,1,1] (a==a) (pQ [1,1,1,1] (b==b) (pQ [1,1,1] (c==c) (pQ [1,1] (d==d) (pQ [1] (e==e) (pQ ([]:List Nat) (f==f) true)))))))=false:=fun a b c d e f=>by rw[yF,yF,yF,yF,yF,yF];rfl
   rw[ha,aR,aUo,aR,aC,v1,aB,fv,aR,aUo,aR,aC,v2,aB,aB];dsimp only;rw[fv,aR,hsan,aB,aS,yF,aS,yF,aS,yF];rfl
  ·rw[aI (decide_eq_true (by omega)),hsan,aB]
end Go.Proofs.Tryz
set_option maxRecDepth 8000
namespace Go.Proofs.Tryz
open Go.Eng Go.RowKit
theorem aUg:gA 17179869200=some true:=by kernel_rfl
end Go.Proofs.Tryz
set_option maxRecDepth 8000
namespace Go.Proofs.Tryz
open Go.Eng Go.RowKit Go.Lib
abbrev cI:List Ty:=[(.w (.p tI (.p tG tH))),.s]
theorem ac{a:Int}{l:List Int}(h:I64 a)(hl:∀x∈l,I64 x):∀x∈a::l,I64 x:=fun x hx=>by
 rcases br.1 hx with rfl|hx
 ·exact h
 ·exact hl x hx
theorem an:∀x∈([]:List Int),I64 x:=fun x hx=>(dc hx).elim
theorem cR{n:Int}(h:IntKind.min .i64<=n/\n<=IntKind.max .i64):I64 n:=by
 have e1:IntKind.min .i64=-9223372036854775808:=by decide
 have e2:IntKind.max .i64=9223372036854775807:=by decide
 rw[e1,e2]at h;exact h
theorem aN9(x:Pk)(h:(cI[0]).ok x):okA x:=by
 obtain⟨⟨r1,r2,r3,r4,r5,r6⟩,⟨v1,v2,v3,v4,v5,v6,v7,_,vq⟩,⟨b1,b2,b3,b4,b5,_,bq⟩⟩:=h;refine⟨ac yE.2 (ac (cR r1) (ac (cR r2) (ac (cR r3) (ac (cR r4) (ac (cR r5) (ac (cR r6) an)))))),⟨ac ⟨by decide,by decide⟩ (ac (cR v1) (ac (cR v2) (ac (cR v3) (ac (cR v4) (ac (cR v5) (ac (cR v6) (ac (cR v7) an))))))),fun p hp=>cR (vq p hp).1⟩,ac ⟨by decide,by decide⟩ (ac (cR b1) (ac (cR b2) (ac (cR b3) (ac (cR b4) (ac (cR b5) an))))),fun r hr y hy=>?_⟩;obtain⟨c1,c2,⟨_,c3⟩,c4,c5⟩:=bq r hr;rcases dh.1 hy with hy|hy
 ·exact ac (cR c1) (ac (cR c2) (ac (cR c4) (ac (cR c5) an))) y hy
 ·obtain⟨q,hq,hy⟩:=List.mem_flatMap.1 hy;obtain⟨d1,d2⟩:=c3 q hq;exact ac (cR d1) (ac (cR d2) an) y hy
theorem aO7(N:Nat)(x0:(cI[0]).T)(x1:(cI[1]).T)(h:bQ N x0 x1=some true):ACall Tryz.prog 4 (aHy cI (x0,(x1,()))) [] (.D (.B true)) [] []:=
 letI:YL:=⟨0⟩
 lH N (x0,(x1,())) true h [] rfl
theorem leaves_acall:∀x:tup cI,aNj cI x->ACall Tryz.prog 4 (aHy cI x) [] (.D (.B true)) [] []
 |(x0,(x1,())),hx=>aO7 17179869200 x0 x1 (aLr (by omega) aUg x0 x1 (aN9 x0 hx.1))
end Go.Proofs.Tryz

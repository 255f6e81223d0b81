/- Texts of this claim. -/
import Derived.Test.YtoklpgfaedjjpaaGreatDoorLA
import Derived.Test.YtoklpgfaedjjpaaGreatDoorLP
import Derived.Lib.Varint
import Derived.Lib.BitFns
import Derived.Laws.Bits64
import Derived.Lib.EndianBits
import Derived.Test.YtoklpgfaedjjpaaGreatDoorYB
open BitVec renaming ofInt->j0,ofInt_natCast->iw,toNat_ofNat->jk
open Bool renaming and_eq_true->μ,eq_iff_iff->e7,not_false->k6,not_true->dq,true_and->m8
open Go.IntKind renaming bits->gm,max->ou,wrap->δ
open Int renaming ofNat_tmod->mw,tmod->ei,toNat_natCast->ξ
open List renaming append_assoc->υ,append_nil->bb,cons_append->iu,drop_append_of_le_length->ee,drop_drop->dv,drop_eq_getElem_cons->en,drop_eq_nil_of_le->ff,drop_of_length_le->cd,drop_zero->cc,eq_nil_of_length_eq_zero->jn,flatMap_cons->eo,getD_eq_getElem?_getD->az,getElem?_eq_getElem->ν,getElem_mem->im,length_append->ι,length_cons->bf,length_drop->aw,length_eq_zero_iff->de,length_map->κ,length_nil->cf,length_take->bn,map_append->bq,map_cons->cu,map_take->bu,mem_append->c8,mem_cons->bo,mem_cons_of_mem->cp,mem_cons_self->cr,mem_map->dk,mem_singleton->bj,nil_append->cz,not_mem_nil->fv,pairwise_cons->gz,replicate->ω,take_append_drop->gv,take_append_of_le_length->gf,take_of_length_le->bk,take_zero->iq
open Nat renaming add_assoc->fw,le_refl->τ,le_trans->cg,mod_eq_of_lt->ji,mul_comm->j5,mul_le_mul_left->lq,mul_le_mul_right->cq,not_lt_zero->cj,pow_le_pow_right->dw,sub_self->lf,zero_add->bg
set_option linter.all false
set_option maxRecDepth 8000
set_option synthInstance.maxSize 100000
set_option synthInstance.maxHeartbeats 400000
namespace Go.Proofs.Tryz
open Go.Eng Go.RowKit Go.Lib
variable{N:Nat}{α:Type}{n a b:Int}{l:List Int}{s:Str}{v:Vr}
theorem q8(n:Nat):δ .u8 (n:Int)=((n%256:Nat):Int):=by rw[IntKind.wrap_u8];omega
theorem q64{x:Int}(h:0<=x)(h':x<18446744073709551616):δ .u64 x=x:=by rw[IntKind.wrap_u64];omega
def I64(n:Int):Prop:=-9223372036854775808<=n/\n<=9223372036854775807
theorem bBb(s:Str)(i:Nat):(aE s)[i]?=(s[i]?).map fun c=>(c.toNat:Int):=by unfold aE;rw[List.getElem?_map]
theorem fH(s:Str):aO (aE s)=s:=by
 unfold aO aE;rw[List.map_map]
 conv=>rhs;rw[<-List.map_id s]
 refine List.map_congr_left fun c _=>?_;show UInt8.ofNat ((c.toNat:Int)).toNat=c;rw[ξ];exact UInt8.ofNat_toNat
theorem sD(s t:Str):aE (s++t)=aE s++aE t:=bq
theorem aXh{t:Str}{n:Nat}:aE (t.take n)=(aE t).take n:=by unfold aE;rw[bu]
theorem aK0{t:Str}{n:Nat}:aE (t.drop n)=(aE t).drop n:=by unfold aE;rw[List.map_drop]
theorem bTu(m:Nat):rU (m+1)=xC (rU m):=rfl
theorem aUw:∀(k z m:Nat) (a:List Int),z<128^(k+1)->z<18446744073709551616->k<m->a.length+k<1000000->
  rU m (z:Int) a=some (a++aE (uvarint z))
 |k,z,0,a,_,_,h,_=>by omega
 |k,z,m+1,a,hz,hz2,hm,hal=>by
  rw[bTu];unfold xC;rw[q8];by_cases h:128<=z
  ·obtain⟨k',rfl⟩:∃k',k=k'+1:=⟨k-1,by cases k with
    |zero=>have:128^(0+1)=128:=rfl;omega
    |succ k=>rfl⟩
   have e1:bits .or .u8 ((z%256:Nat):Int) 128=((z%128+128:Nat):Int):=by rw[Go.Lib.u8_or128_any _ (by omega) (by omega)];omega
   have e4:(z:Int)/2^7=((z/128:Nat):Int):=rfl;rw[e1,e4,aH (decide_eq_true (by omega)),aJ,aC (by simp only[bf,cf];omega),aJ];rw[aUw k' (z/128) m (a++[((z%128+128:Nat):Int)]) (by have:128^(k'+1+1)=128^(k'+1)*128:=rfl;omega) (by omega) (by omega) (by simp only[ι,bf,cf];omega),uvarint_big h,υ];refine congrArg (fun l=>some (a++l)) ?_;show _::aE (uvarint (z/128))=(((z%128+128).toUInt8.toNat:Nat):Int)::aE (uvarint (z/128));rw[show(z%128+128).toUInt8.toNat=z%128+128 by
    show(z%128+128)%256=_;omega]
  ·rw[aI (decide_eq_false (by omega)),aJ,aC (by simp only[bf,cf];omega),aJ,uvarint_small (by omega)];refine congrArg (fun l=>some (a++l)) ?_;show[((z%256:Nat):Int)]=[((z.toUInt8.toNat:Nat):Int)];rw[show z.toUInt8.toNat=z%256 from rfl]
theorem bKk(N:Nat)(n:Int)(hN:20<=N)(hn:I64 n):eI N n=some (aE (uvarint (zigzag n))):=by
 obtain⟨h1,h2⟩:=hn;have e1:(2:Int)^63=9223372036854775808:=rfl;have e2:(2:Int)^1=2:=rfl;have hz:zigzag n<18446744073709551616:=by unfold zigzag;split<;>omega
 have key:bits .xor .u64 (δ .u64 ((δ .u64 n)*2)) (δ .u64 (n/9223372036854775808))=((zigzag n:Nat):Int):=by
  by_cases h:0<=n
  ·have hz':zigzag n=(2*n).toNat:=by unfold zigzag;rw[if_pos h]
   rw[show n/9223372036854775808=((0:Nat):Int) by omega,q64 (x:=n) h (by omega),q64 (x:=n*2) (by omega) (by omega),q64 (x:=((0:Nat):Int)) (by omega) (by omega),show n*2=(((2*n).toNat:Nat):Int) by omega,Go.bits_xor_u64_nat _ _ (by omega) (by omega),Nat.xor_zero,hz']
  ·have hz':zigzag n=(-2*n-1).toNat:=by unfold zigzag;rw[if_neg h]
   have w:∀x:Int,δ .u64 x=x%18446744073709551616:=fun x=>IntKind.wrap_u64 x;obtain⟨y,hy,hy2⟩:∃y:Nat,(((n%18446744073709551616)*2)%18446744073709551616:Int)=(y:Int)/\(y:Int)=18446744073709551616+2*n:=⟨(18446744073709551616+2*n).toNat,by omega,by omega⟩;rw[w,w,w,hy,show n/9223372036854775808%18446744073709551616=((18446744073709551615:Nat):Int) by omega,Go.bits_xor_u64_nat _ _ (by omega) (by omega)];have hx:y^^^18446744073709551615=18446744073709551615-y:=by
    rw[Nat.xor_comm];apply Nat.eq_of_testBit_eq;intro i;rw[Nat.testBit_xor,show 18446744073709551615-y=2^64-(y+1) by omega,Nat.testBit_two_pow_sub_succ (by omega),show(18446744073709551615:Nat)=2^64-(0+1)from rfl,Nat.testBit_two_pow_sub_succ (by omega)];by_cases hi:i<64
    ·simp[hi]
    ·have:y.testBit i=false:=Nat.testBit_lt_two_pow (Nat.lt_of_lt_of_le (show y<2^64 by omega) (dw (by decide) (by omega)));simp[hi,this]
   rw[hx,hz'];omega
 unfold eI;rw[e1,e2,key,aUw 9 (zigzag n) N [] (by have:128^(9+1)=1180591620717411303424:=rfl;omega) hz (by omega) (by simp),cz]
def unz(z:Nat):Int:=if z%2=0 then((z/2:Nat):Int)else-((z/2:Nat):Int)-1
def giN:Nat->Nat->Str->Int×Int×Int
 |_,_,[]=>(0,0,10)
 |k,z,c::r=>if(k=9/\1<c.toNat)\/(0<k/\c.toNat=0)then(0,0,11)else if c.toNat<128 then(unz (z+c.toNat%128*128^k),((k+1:Nat):Int),0)else giN (k+1) (z+c.toNat%128*128^k) r
theorem aPg(n:Int)(h₀:0<=n)(h₁:n<2^64):IntKind.u64.wrap n=n:=by rw[IntKind.wrap_u64];omega
theorem bLn(x b:Nat)(hx:x<9223372036854775808)(hb:b<2):bits .xor .i64 (x:Int) (-(b:Int))=if b=0 then(x:Int)else-(x:Int)-1:=by
 obtain rfl|rfl:b=0\/b=1:=by omega
 ·simp only[bits,if_pos];rw[show(-((0:Nat):Int))=((0:Nat):Int)from rfl,iw,iw,BitVec.toNat_xor,jk,jk];rw[show(0%2^IntKind.i64.bits)=0 from rfl,Nat.xor_zero,IntKind.wrap_i64,show IntKind.i64.bits=64 from rfl];omega
 ·rw[if_neg (by decide)];simp only[bits];have hone:j0 IntKind.i64.bits (-((1:Nat):Int))=BitVec.allOnes IntKind.i64.bits:=by decide
  rw[hone,iw,BitVec.xor_allOnes,BitVec.toNat_not,jk,IntKind.wrap_i64,show IntKind.i64.bits=64 from rfl];omega
theorem aZr(z k c:Nat)(hz:z<128^k)(hk:k<=9)(hc:c<256)(h9:k=9->c<=1):
  bits .or .u64 (z:Int) (δ .u64 ((δ .u64 ((bits .and .u8 (c:Int) 127)))*2^(7*(k:Int)).toNat))=((z+c%128*128^k:Nat):Int)/\z+c%128*128^k<18446744073709551616/\(k<9->z+c%128*128^k<128^(k+1)):=by
 have p9:128^k<=9223372036854775808:=cg (dw (by decide) hk) (by decide);have hm:c%128<128:=Nat.mod_lt _ (by decide);have hb:z+c%128*128^k<18446744073709551616/\(k<9->z+c%128*128^k<128^(k+1)):=by
  have e:128^(k+1)=128^k*128:=rfl;have h1:c%128*128^k<=127*128^k:=cq _ (by omega);refine⟨?_,fun _=>by omega⟩;by_cases h:k=9
  ·subst h;have h2:c%128*128^9<=1*128^9:=cq _ (by have:=h9 rfl;omega);omega
  ·have p8:128^k<=72057594037927936:=cg (dw (by decide) (show k<=8 by omega)) (by decide);omega
 refine⟨?_,hb⟩;have e1:bits .and .u8 (c:Int) 127=((c%128:Nat):Int):=by have:=bits_mask .u8 8 (by decide) wraps_u8 7 (by decide) (c:Int) (by omega) (by omega);rw[show((2:Int)^7-1)=127 from rfl]at this;rw[this];omega
 have e2:(2:Int)^(7*(k:Int)).toNat=((128^k:Nat):Int):=by rw[show(7*(k:Int)).toNat=7*k by omega,Int.pow_mul];simp
 have hx:c%128*128^k<18446744073709551616:=by omega
 rw[e1,q64 (x:=((c%128:Nat):Int)) (by omega) (by omega),e2,<-Int.natCast_mul,q64 (x:=((c%128*128^k:Nat):Int)) (by omega) (by omega),(bits_nat .u64 64 (by decide) aPg _ _ (by omega) (by omega)).2];congr 1;have e3:128^k=2^(7*k):=by rw[Nat.pow_mul]
 rw[e3]at hz|-;have:=Nat.shiftLeft_add_eq_or_of_lt hz (c%128);rw[Nat.shiftLeft_eq]at this;rw[Nat.or_comm,<-this,Nat.add_comm]
def giL:Nat->Nat->Str->TB0⊕TL
 |_,z,[]=>.inr ((z:Int),0)
 |k,z,c::r=>if(k=9/\1<c.toNat)\/(0<k/\c.toNat=0)then .inl (0,(0,11))else if c.toNat<128 then .inr (((z+c.toNat%128*128^k:Nat):Int),((k+1:Nat):Int))else giL (k+1) (z+c.toNat%128*128^k) r
def giT:TB0⊕TL->Int×Int×Int
 |.inl r=>r
 |.inr v=>if v.2=0 then(0,0,10)else(unz v.1.toNat,v.2,0)
theorem bM6:∀(r:Str) (k z:Nat),giT (giL k z r)=giN k z r
 |[],k,z=>rfl
 |c::r,k,z=>by
  rw[giL,giN];by_cases h:(k=9/\1<c.toNat)\/(0<k/\c.toNat=0)
  ·rw[if_pos h,if_pos h];rfl
  ·rw[if_neg h,if_neg h];by_cases h2:c.toNat<128
   ·rw[if_pos h2,if_pos h2];unfold giT;dsimp only;rw[if_neg (by omega),ξ]
   ·rw[if_neg h2,if_neg h2];exact bM6 r _ _
theorem bM0:∀(r:Str) (k z:Nat) (v:Int×Int),k<=9->z<128^k->giL k z r=.inr v->∃y:Nat,v.1=(y:Int)/\y<18446744073709551616/\∃u:Nat,v.2=(u:Int)
 |[],k,z,v,hk,hz,h=>by
  cases h;have p9:128^k<=9223372036854775808:=cg (dw (by decide) hk) (by decide);exact⟨z,rfl,by omega,0,rfl⟩
 |c::r,k,z,v,hk,hz,h=>by
  rw[giL]at h;have hcl:=c.toNat_lt;by_cases hb:(k=9/\1<c.toNat)\/(0<k/\c.toNat=0)
  ·rw[if_pos hb]at h;cases h
  ·rw[if_neg hb]at h;obtain⟨_,h2,h3⟩:=aZr z k c.toNat hz hk (by omega) (by omega);by_cases hh:c.toNat<128
   ·rw[if_pos hh]at h;cases h;exact⟨_,rfl,h2,k+1,rfl⟩
   ·rw[if_neg hh]at h;exact bM0 r (k+1) _ v (by omega) (h3 (by omega)) h
theorem bQ7(m:Nat):hH (m+1)=lL (hH m):=rfl
theorem bAp(s:Str):∀(r:Str) (k z m:Nat),s.drop k=r->k<=9->z<128^k->10<m+k->hH m (z:Int) 0 (aE s) (((aE s).length:Nat):Int) (k:Int)=some (giL k z r)
 |r,k,z,0,_,_,_,h=>by omega
 |[],k,z,m+1,hr,hk,hz,hm=>by
  have:s.length<=k:=by have:=congrArg List.length hr;rw[aw,cf]at this;omega
  rw[bQ7];unfold lL;rw[bQ,aI (decide_eq_false (by omega))];rfl
 |c::r,k,z,m+1,hr,hk,hz,hm=>by
  have hlen:k<s.length:=by have:=congrArg List.length hr;rw[aw,bf]at this;omega
  have hc:s[k]=c:=by have:=congrArg (·[0]?) hr;simp only[List.getElem?_drop,Nat.add_zero,List.getElem?_cons_zero]at this;rw[ν hlen]at this;exact Option.some.inj this
  have hr':s.drop (k+1)=r:=by have:=congrArg List.tail hr;rw[List.tail_drop]at this;exact this
  have hcl:=c.toNat_lt;have hget:(aE s)[k]?=some (c.toNat:Int):=by rw[bBb,ν hlen,hc];rfl
  have rec_:=fun z' h1 h2 h3=>bAp s r (k+1) z' m hr' h1 h2 h3;rw[bQ7,giL];unfold lL;rw[bQ]at rec_|-;rw[aH (decide_eq_true (by omega)),cD hget];generalize hcn:c.toNat=d at*;by_cases hbad:(k=9/\1<d)\/(0<k/\d=0)
  ·rw[if_pos hbad];by_cases h9:k=9
   ·subst h9;rw[show(((9:Nat):Int)==9)=true from rfl,bS,aB];dsimp only;by_cases h1:1<d
    ·rw[aH (decide_eq_true (by omega)),aB];rfl
    ·have h0:d=0:=by omega
     subst h0;rfl
   ·have hd:0<k/\d=0:=by omega
    rw[show((k:Int)==9)=false by rw[beq_eq_false_iff_ne];omega,bC,aB];dsimp only;rw[bC,aH (decide_eq_true (by omega)),aB];dsimp only;rw[show((d:Int)==0)=true by rw[beq_iff_eq];omega,bS];rfl
  ·rw[if_neg hbad];obtain⟨e1,e2,e3⟩:=aZr z k d hz hk (by omega) (by omega);have fin:∀x:Bool,x=false->(bd? (some ((z:Int),(0:Int),(k:Int),(d:Int),aE s,(s.length:Int),(k:Int),x)) fun w10=>if? (w10.2.2.2.2.2.2.2) (vV (some ((0,(0,11))))) (ck .i64 ((7*w10.2.2.1)) (gd? ((0<=(7*w10.2.2.1))) (gd? (((7*w10.2.2.1)<=(((gm .u64):Nat):Int))) (if? (decide (w10.2.2.2.1<128)) (ck .i64 ((w10.2.2.1+1)) (some (.inr ((bits .or .u64 w10.1 (δ .u64 ((δ .u64 (bits .and .u8 w10.2.2.2.1 127))*(2^(7*w10.2.2.1).toNat)))),(w10.2.2.1+1))))) (ck .i64 ((w10.2.2.2.2.2.2.1+1)) (hH m (bits .or .u64 w10.1 (δ .u64 ((δ .u64 (bits .and .u8 w10.2.2.2.1 127))*(2^(7*w10.2.2.1).toNat)))) w10.2.1 w10.2.2.2.2.1 w10.2.2.2.2.2.1 (w10.2.2.2.2.2.2.1+1))))))))=some (if d<128 then .inr (((z+d%128*128^k:Nat):Int),((k+1:Nat):Int))else giL (k+1) (z+d%128*128^k) r):=by
    intro x hx;subst hx;rw[aB];dsimp only;rw[bC,aS (by omega) (by omega),aC (by omega),aC (by show _<=((64:Nat):Int);omega),e1];by_cases hh:d<128
    ·rw[aH (decide_eq_true (by omega)),aS (by omega) (by omega),if_pos hh,show(k:Int)+1=((k+1:Nat):Int) by omega]
    ·rw[aI (decide_eq_false (by omega)),aS (by omega) (by omega),if_neg hh,show(k:Int)+1=((k+1:Nat):Int) by omega];exact rec_ _ (by omega) (e3 (by omega)) (by omega)
   by_cases h9:k=9
   ·rw[show((k:Int)==9)=true by rw[beq_iff_eq];omega,bS,aB];dsimp only;rw[aI (decide_eq_false (by omega)),aH (decide_eq_true (by omega))];exact fin _ (by rw[beq_eq_false_iff_ne];omega)
   ·rw[show((k:Int)==9)=false by rw[beq_eq_false_iff_ne];omega,bC,aB];dsimp only;rw[bC];by_cases h0:0<k
    ·rw[aH (decide_eq_true (by omega))];exact fin _ (by rw[beq_eq_false_iff_ne];omega)
    ·rw[aI (decide_eq_false (by omega))];exact fin _ rfl
def gi(s:Str):Int×Int×Int:=giN 0 0 s
theorem aA3(hN:11<=N)(s:Str):fJ N (aE s)=some (gi s):=by
 unfold fJ;have h:=bAp s s 0 0 N rfl (by omega) (by decide) (by omega);rw[show(((0:Nat):Int))=0 from rfl]at h;rw[h];unfold gi;rw[<-bM6];cases e:giL 0 0 s with
 |inl r=>rfl
 |inr v=>
  obtain⟨y,h1,h2,u,h3⟩:=bM0 s 0 0 v (by omega) (by decide) e;obtain⟨a,b⟩:=v;dsimp only at h1 h3;subst h1 h3;rw[aRz];dsimp only[giT];by_cases hu:u=0
  ·subst hu;rfl
  ·have e5:bits .and .u64 (y:Int) 1=((y%2:Nat):Int):=by have:=bits_mask .u64 64 (by decide) aPg 1 (by decide) (y:Int) (by omega) (by omega);rw[show((2:Int)^1-1)=1 from rfl]at this;rw[this];omega
   have e4:(y:Int)/2^1=((y/2:Nat):Int):=rfl;rw[aI (by rw[beq_eq_false_iff_ne];omega),e5,e4,aNl (n:=((y%2:Nat):Int)) (by omega) (by omega),aNl (n:=((y/2:Nat):Int)) (by omega) (by omega),aS (by omega) (by omega),bLn _ _ (by omega) (by omega),if_neg (show¬((u:Int)=0) by omega),ξ];rfl
set_option maxRecDepth 8000
set_option synthInstance.maxSize 100000
set_option synthInstance.maxHeartbeats 400000
theorem bJb{z:Nat}(h:z<18446744073709551616):I64 (unz z):=by unfold unz I64;split<;>omega
theorem bHz:∀(s:Str) (k z:Nat),k<=9->z<128^k->(((giN k z s).2.2=0/\∃u:Nat,(giN k z s).2.1=(u:Int)/\k+1<=u/\u<=k+s.length/\u<=10/\I64 (giN k z s).1)\/((giN k z s).1=0/\(giN k z s).2.1=0/\((giN k z s).2.2=10\/(giN k z s).2.2=11)))
 |[],k,z,_,_=>.inr ⟨rfl,rfl,.inl rfl⟩
 |c::s,k,z,hk,hz=>by
  rw[giN];by_cases hb:(k=9/\1<c.toNat)\/(0<k/\c.toNat=0)
  ·rw[if_pos hb];exact .inr ⟨rfl,rfl,.inr rfl⟩
  ·rw[if_neg hb];have hcl:=c.toNat_lt;obtain⟨_,h2,h3⟩:=aZr z k c.toNat hz hk (by omega) (by omega);by_cases hh:c.toNat<128
   ·rw[if_pos hh];exact .inl ⟨rfl,k+1,rfl,by omega,by simp only[bf];omega,by omega,bJb h2⟩
   ·rw[if_neg hh];have hk9:k<9:=by omega
    rcases bHz s (k+1) _ (by omega) (h3 hk9)with⟨e,u,h1,h2,h3,h4,h5⟩|h
    ·exact .inl ⟨e,u,h1,by omega,by simp only[bf];omega,h4,h5⟩
    ·exact .inr h
theorem aP6(s:Str):((gi s).2.2=0/\∃u:Nat,(gi s).2.1=(u:Int)/\1<=u/\u<=s.length/\u<=10/\I64 (gi s).1)\/((gi s).1=0/\(gi s).2.1=0/\((gi s).2.2=10\/(gi s).2.2=11)):=by
 rcases bHz s 0 0 (by omega) (by decide)with⟨e,u,h1,h2,h3,h4,h5⟩|h
 ·exact .inl ⟨e,u,h1,by omega,by omega,h4,h5⟩
 ·exact .inr h
def cR(s:Str):Int×Int×Int:=
 if(gi s).2.2≠0 then(0,0,(gi s).2.2)else if(gi s).1<0 then(0,0,11)else if(gi s).1>(s.length:Int)-(gi s).2.1 then(0,0,10)else((gi s).1,(gi s).2.1,0)
theorem aAm(h:a=b):(a !=b)=false:=by rw[bne_eq_false_iff_eq];exact h
theorem aHi(h:a≠b):(a !=b)=true:=by rw[bne_iff_ne];exact h
theorem aGt(hN:11<=N)(s:Str)(hs:s.length<=1000000):iA N (aE s) 1=some (cR s):=by
 unfold iA cR;rw[aA3 hN,aB,bQ];rcases aP6 s with⟨e,u,h1,h2,h3,h4,h5⟩|⟨h1,h2,h3⟩
 ·obtain⟨b1,b2⟩:=h5;rw[aAm e,bC,if_neg (by rw[e];simp),h1,Int.tdiv_one];by_cases hn:(gi s).1<0
  ·rw[aH (decide_eq_true hn),if_pos hn]
  ·rw[aI (decide_eq_false hn),if_neg hn,aS (by omega) (by omega),aC (by decide),aS (by omega) (by omega)];by_cases hg:(gi s).1>(s.length:Int)-(u:Int)
   ·rw[aH (decide_eq_true hg),if_pos hg]
   ·rw[aI (decide_eq_false hg),if_neg hg]
 ·have hne:(gi s).2.2≠0:=by omega
  rw[aHi hne,bS,if_pos hne]
theorem rY(s:Str):((cR s).2.2=0/\∃n u:Nat,cR s=((n:Int),(u:Int),0)/\1<=u/\n+u<=s.length)\/((cR s).1=0/\(cR s).2.1=0/\((cR s).2.2=10\/(cR s).2.2=11)):=by
 unfold cR;rcases aP6 s with⟨e,u,h1,h2,h3,h4,h5⟩|⟨h1,h2,h3⟩
 ·rw[if_neg (by rw[e];simp)];by_cases hn:(gi s).1<0
  ·rw[if_pos hn];exact .inr ⟨rfl,rfl,.inr rfl⟩
  ·rw[if_neg hn];by_cases hg:(gi s).1>(s.length:Int)-(gi s).2.1
   ·rw[if_pos hg];exact .inr ⟨rfl,rfl,.inl rfl⟩
   ·rw[if_neg hg];refine .inl ⟨rfl,(gi s).1.toNat,u,?_,h2,by omega⟩;rw[h1,Int.toNat_of_nonneg (by omega)]
 ·rw[if_pos (by omega)];exact .inr ⟨rfl,rfl,h3⟩
def pB:Nat->Str->Int->List Int->List Int×Int×Int
 |0,_,a,acc=>(acc,a,0)
 |n+1,r,a,acc=>if(gi r).2.2≠0 then([],0,(gi r).2.2)else pB n (r.drop (gi r).2.1.toNat) (a+(gi r).2.1) (acc++[(gi r).1])
theorem aPu(s:Str)(a:Nat):((aE s).drop a).take ((aE s).length-a)=aE (s.drop a):=by rw[aK0,bk (by rw[aw];exact τ _)]
theorem bMu(N m:Nat):kF N (m+1)=kD N (kF N m):=rfl
def swp{α:Type}(v:α×Int×Int):Int×(Int×α):=(v.2.1,(v.2.2,v.1))
theorem aNm{N:Nat}(hN:11<=N)(s:Str)(v:Nat)(hs:s.length<=1000000):∀(n a b m:Nat) (acc:List Int),v=b+n->a<=s.length->b+n<=1000000->acc.length=b->n<m->
  kF N m (aE s) (a:Int) (v:Int) (b:Int) acc=some (swp (pB n (s.drop a) (a:Int) acc))
 |n,a,b,0,acc,_,_,_,_,h=>by omega
 |0,a,b,m+1,acc,hv,ha,hb,hacc,_=>by
  rw[bMu];unfold kD;rw[aI (decide_eq_false (by omega)),aJ];rfl
 |n+1,a,b,m+1,acc,hv,ha,hb,hacc,hm=>by
  rw[bMu];unfold kD;rw[aH (decide_eq_true (by omega)),aC (by omega),ξ,aC (by rw[bQ];exact ha),aC (τ _),aPu,aA3 hN,aB,pB];rcases aP6 (s.drop a)with⟨e,u,h1,h2,h3,h4,h5⟩|⟨h1,h2,h3⟩
  ·rw[aw]at h3;rw[aAm e,bC,if_neg (by rw[e];simp),aJ,aC (by simp only[bf,cf];omega),h1,aS (by omega) (by omega),aS (by omega) (by omega),aJ,show((a:Int)+(u:Int))=((a+u:Nat):Int) by omega,show((b:Int)+1)=((b+1:Nat):Int) by omega,
    aNm hN s v hs n (a+u) (b+1) m _ (by omega) (by omega) (by omega) (by simp[hacc]) (by omega),ξ,dv]
  ·have hne:(gi (s.drop a)).2.2≠0:=by omega
   rw[aHi hne,bS,if_pos hne];rfl
def dH(s:Str):List Int×Int×Int:=if(cR s).2.2≠0 then([],0,(cR s).2.2)else pB (cR s).1.toNat (s.drop (cR s).2.1.toNat) (cR s).2.1 []
theorem aWy(s:Str)(hN:11<=N)(hs:s.length<N)(hb:s.length<=1000000):oM N (aE s)=some (swp (dH s)):=by
 unfold oM sS dH;rw[aGt hN s hb,aB];rcases rY s with⟨e,n,u,h1,h2,h3⟩|⟨h1,h2,h3⟩
 ·rw[aAm e,bC,if_neg (by rw[e];simp)];have e1:(cR s).1=(n:Int):=by rw[h1]
  have e2:(cR s).2.1=(u:Int):=by rw[h1]
  rw[e2,e1];have:=aNm hN s n hb n u 0 N [] (by omega) (by omega) (by omega) rfl (by omega);rw[show(((0:Nat):Int))=0 from rfl]at this;rw[this,aB,ξ,ξ,aJ]
  try rfl
 ·have hne:(cR s).2.2≠0:=by omega
  rw[aHi hne,bS,if_pos hne,aB,aJ]
  try rfl
def cL(s:Str):Str×Int×Int:=if(cR s).2.2≠0 then([],0,(cR s).2.2)else((s.drop (cR s).2.1.toNat).take (cR s).1.toNat,(cR s).2.1+(cR s).1,0)
theorem aVu(s:Str)(hN:11<=N)(hb:s.length<=1000000):lH N (aE s)=some (cL s):=by
 unfold lH cL;rw[aGt hN s hb,aB];rcases rY s with⟨e,n,u,h1,h2,h3⟩|⟨h1,h2,h3⟩
 ·rw[aAm e,bC,if_neg (by rw[e];simp)];have e1:(cR s).1=(n:Int):=by rw[h1]
  have e2:(cR s).2.1=(u:Int):=by rw[h1]
  rw[e1,e2,aS (by omega) (by omega),aC (by omega),aC (by omega),aC (by omega),aC (by rw[bQ];omega),aS (by omega) (by omega),ξ,ξ,show((u:Int)+(n:Int)).toNat-u=n by omega,<-aK0,<-aXh,fH]
 ·have hne:(cR s).2.2≠0:=by omega
  rw[aHi hne,bS,if_pos hne]
theorem aOc(s:Str):((cL s).2.2=0/\∃u:Nat,(cL s).2.1=(u:Int)/\1<=u/\u<=s.length/\(cL s).1.length<=s.length)\/((cL s).1=[]/\(cL s).2.1=0/\((cL s).2.2=10\/(cL s).2.2=11)):=by
 unfold cL;rcases rY s with⟨e,n,u,h1,h2,h3⟩|⟨h1,h2,h3⟩
 ·rw[if_neg (by rw[e];simp)];refine .inl ⟨rfl,u+n,by rw[h1];rfl,by omega,by omega,?_⟩;show((s.drop _).take _).length<=_;rw[bn,aw];omega
 ·rw[if_pos (by omega)];exact .inr ⟨rfl,rfl,h3⟩
def oY:Nat->Str->Int->List Str->List Str×Int×Int
 |0,_,a,acc=>(acc,a,0)
 |n+1,r,a,acc=>if(cL r).2.2≠0 then([],0,(cL r).2.2)else oY n (r.drop (cL r).2.1.toNat) (a+(cL r).2.1) (acc++[(cL r).1])
theorem bMn(N m:Nat):fT N (m+1)=fU N (fT N m):=rfl
theorem aKv{N:Nat}(hN:11<=N)(s:Str)(v:Nat)(hs:s.length<=1000000):∀(n a b m:Nat) (acc:List Str),v=b+n->a<=s.length->b+n<=1000000->acc.length=b->n<m->
  fT N m (aE s) (a:Int) (v:Int) (b:Int) acc=some (swp (oY n (s.drop a) (a:Int) acc))
 |n,a,b,0,acc,_,_,_,_,h=>by omega
 |0,a,b,m+1,acc,hv,ha,hb,hacc,_=>by
  rw[bMn];unfold fU;rw[aI (decide_eq_false (by omega)),aJ];rfl
 |n+1,a,b,m+1,acc,hv,ha,hb,hacc,hm=>by
  rw[bMn];unfold fU;rw[aH (decide_eq_true (by omega)),aC (by omega),ξ,aC (by rw[bQ];exact ha),aC (τ _),aPu,aVu _ hN (by rw[aw];omega),aB,oY];rcases aOc (s.drop a)with⟨e,u,h1,h2,h3,h4⟩|⟨h1,h2,h3⟩
  ·rw[aw]at h3;rw[aAm e,bC,if_neg (by rw[e];simp),aJ,aC (by simp only[bf,cf];omega),h1,aS (by omega) (by omega),aS (by omega) (by omega),aJ,show((a:Int)+(u:Int))=((a+u:Nat):Int) by omega,show((b:Int)+1)=((b+1:Nat):Int) by omega,
    aKv hN s v hs n (a+u) (b+1) m _ (by omega) (by omega) (by omega) (by simp[hacc]) (by omega),ξ,dv]
  ·have hne:(cL (s.drop a)).2.2≠0:=by omega
   rw[aHi hne,bS,if_pos hne];rfl
def eM(s:Str):List Str×Int×Int:=if(cR s).2.2≠0 then([],0,(cR s).2.2)else oY (cR s).1.toNat (s.drop (cR s).2.1.toNat) (cR s).2.1 []
theorem aCe(s:Str)(hN:11<=N)(hs:s.length<N)(hb:s.length<=1000000):fA N (aE s)=some (swp (eM s)):=by
 unfold fA oE eM;rw[aGt hN s hb,aB];rcases rY s with⟨e,n,u,h1,h2,h3⟩|⟨h1,h2,h3⟩
 ·rw[aAm e,bC,if_neg (by rw[e];simp)];have e1:(cR s).1=(n:Int):=by rw[h1]
  have e2:(cR s).2.1=(u:Int):=by rw[h1]
  rw[e2,e1];have:=aKv hN s n hb n u 0 N [] (by omega) (by omega) (by omega) rfl (by omega);rw[show(((0:Nat):Int))=0 from rfl]at this;rw[this,aB,ξ,ξ,aJ]
  try rfl
 ·have hne:(cR s).2.2≠0:=by omega
  rw[aHi hne,bS,if_pos hne,aB,aJ]
  try rfl
theorem wX(h:a=b):(a==b)=true:=by rw[beq_iff_eq];exact h
theorem aE2(h:a≠b):(a==b)=false:=by rw[beq_eq_false_iff_ne];exact h
theorem aU0:∀(n:Nat) (r:Str) (a:Nat) (acc:List Int),(∀x∈acc,I64 x)->((pB n r (a:Int) acc).2.2=0/\∃u:Nat,(pB n r (a:Int) acc).2.1=(u:Int)/\a<=u/\u<=a+r.length/\(pB n r (a:Int) acc).1.length=acc.length+n/\∀x∈(pB n r (a:Int) acc).1,I64 x)\/((pB n r (a:Int) acc).2.2≠0)
 |0,r,a,acc,h=>.inl ⟨rfl,a,rfl,by omega,by omega,rfl,h⟩
 |n+1,r,a,acc,h=>by
  rw[pB];rcases aP6 r with⟨e,u,h1,h2,h3,h4,h5⟩|⟨h1,h2,h3⟩
  ·rw[if_neg (by rw[e];simp),h1,show((a:Int)+(u:Int))=((a+u:Nat):Int) by omega,ξ];rcases aU0 n (r.drop u) (a+u) (acc++[(gi r).1]) (fun x hx=>by
    rcases c8.1 hx with hx|hx
    ·exact h x hx
    ·rw[bj.1 hx];exact h5)with⟨e',u',g1,g2,g3,g4,g5⟩|g
   ·rw[aw]at g3;exact .inl ⟨e',u',g1,by omega,by omega,by rw[g4];simp;omega,g5⟩
   ·exact .inr g
  ·have hne:(gi r).2.2≠0:=by omega
   rw[if_pos hne];exact .inr hne
theorem aV5(s:Str):((dH s).2.2=0/\∃u:Nat,(dH s).2.1=(u:Int)/\u<=s.length/\(dH s).1.length<=s.length/\∀x∈(dH s).1,I64 x)\/((dH s).2.2≠0):=by
 unfold dH;rcases rY s with⟨e,n,u,h1,h2,h3⟩|⟨h1,h2,h3⟩
 ·rw[if_neg (by rw[e];simp)];have e1:(cR s).1=(n:Int):=by rw[h1]
  have e2:(cR s).2.1=(u:Int):=by rw[h1]
  rw[e1,e2,ξ,ξ];rcases aU0 n (s.drop u) u [] (fun x hx=>by cases hx)with⟨e',u',g1,g2,g3,g4,g5⟩|g
  ·rw[aw]at g3;exact .inl ⟨e',u',g1,by omega,by rw[g4];simp;omega,g5⟩
  ·exact .inr g
 ·have hne:(cR s).2.2≠0:=by omega
  rw[if_pos hne];exact .inr hne
theorem aU5:∀(n:Nat) (r:Str) (a:Nat) (acc:List Str),((oY n r (a:Int) acc).2.2=0/\∃u:Nat,(oY n r (a:Int) acc).2.1=(u:Int)/\a<=u/\u<=a+r.length/\(oY n r (a:Int) acc).1.length=acc.length+n/\∀b:Nat,r.length<=b->(∀x∈acc,x.length<=b)->∀x∈(oY n r (a:Int) acc).1,x.length<=b)\/((oY n r (a:Int) acc).2.2≠0)
 |0,r,a,acc=>.inl ⟨rfl,a,rfl,by omega,by omega,rfl,fun _ _ h=>h⟩
 |n+1,r,a,acc=>by
  rw[oY];rcases aOc r with⟨e,u,h1,h2,h3,h4⟩|⟨h1,h2,h3⟩
  ·rw[if_neg (by rw[e];simp),h1,show((a:Int)+(u:Int))=((a+u:Nat):Int) by omega,ξ];rcases aU5 n (r.drop u) (a+u) (acc++[(cL r).1])with⟨e',u',g1,g2,g3,g4,g5⟩|g
   ·rw[aw]at g3;refine .inl ⟨e',u',g1,by omega,by omega,by rw[g4];simp;omega,fun b hb hx=>g5 b (by rw[aw];omega) fun x hx'=>?_⟩;rcases c8.1 hx' with hx'|hx'
    ·exact hx x hx'
    ·rw[bj.1 hx'];omega
   ·exact .inr g
  ·have hne:(cL r).2.2≠0:=by omega
   rw[if_pos hne];exact .inr hne
theorem zZ(s:Str):((eM s).2.2=0/\∃u:Nat,(eM s).2.1=(u:Int)/\u<=s.length/\(eM s).1.length<=s.length/\∀x∈(eM s).1,x.length<=s.length)\/((eM s).2.2≠0):=by
 unfold eM;rcases rY s with⟨e,n,u,h1,h2,h3⟩|⟨h1,h2,h3⟩
 ·rw[if_neg (by rw[e];simp)];have e1:(cR s).1=(n:Int):=by rw[h1]
  have e2:(cR s).2.1=(u:Int):=by rw[h1]
  rw[e1,e2,ξ,ξ];rcases aU5 n (s.drop u) u []with⟨e',u',g1,g2,g3,g4,g5⟩|g
  ·rw[aw]at g3;exact .inl ⟨e',u',g1,by omega,by rw[g4];simp;omega,g5 s.length (by rw[aw];omega) fun x hx=>by cases hx⟩
  ·exact .inr g
 ·have hne:(cR s).2.2≠0:=by omega
  rw[if_pos hne];exact .inr hne
def hd(s:Str)(k:Int)(c:Nat)(more:Bool):Option (List Int×List Str):=
 if(dH s).2.2=0/\(dH s).1.length=c/\(dH s).1.getD 0 0=k then
  if more=true then
   if(eM (s.drop (dH s).2.1.toNat)).2.2=0/\(dH s).2.1+(eM (s.drop (dH s).2.1.toNat)).2.1=(s.length:Int)then some ((dH s).1,(eM (s.drop (dH s).2.1.toNat)).1)else none
  else if(dH s).2.1=(s.length:Int)then some ((dH s).1,[])else none
 else none
theorem bGa(s:Str)(a:Nat):(s.drop a).take (s.length-a)=s.drop a:=bk (by rw[aw];exact τ _)
def oS{α:Type}:Option α->α⊕Unit
 |some x=>.inl x
 |none=>.inr ()
theorem aCy(N:Nat){b:Bool}(h:b=true):cC N b=some (.inl ()):=by subst h;rfl
theorem vJ(N:Nat){b:Bool}(h:b=false):cC N b=some (.inr ()):=by subst h;rfl
theorem aY8(s:Str)(k:Int)(c:Nat)(more:Bool)(hN:11<=N)(hs:s.length<N)(hb:s.length<=1000000)(hc:1<=c):qD N s k (c:Int) more=some (oS (hd s k c more)):=by
 unfold qD hd;rw[aWy s hN hs hb,aB];unfold swp;dsimp only;rcases aV5 s with⟨e,u,h1,h2,h3,h4⟩|h
 ·rw[wX e,bS];by_cases hl:(dH s).1.length=c
  ·obtain⟨x,r,hx⟩:∃x r,(dH s).1=x::r:=by
    cases hg:(dH s).1 with
    |nil=>rw[hg]at hl;simp at hl;omega
    |cons x r=>exact⟨x,r,rfl⟩
   have hg0:(dH s).1[0]?=some x:=by rw[hx];rfl
   have hgD:(dH s).1.getD 0 0=x:=by rw[hx];rfl
   rw[wX (show((dH s).1.length:Int)=(c:Int) by omega),bS,aC (by omega),aCm hg0,hgD];by_cases hk:x=k
   ·rw[aCy N (wX hk),aB,yH,aJ,aRz,if_pos ⟨e,hl,hk⟩];dsimp only;cases more with
    |true=>
     rw[dq,bC,if_pos rfl,h1,ξ,aC (by omega),aC h2,aC (τ _),bGa,aCe _ hN (by rw[aw];omega) (by rw[aw];omega),aB];unfold swp;dsimp only;rcases zZ (s.drop u)with⟨e',u',g1,g2,g3,g4⟩|g
     ·rw[aw]at g2;rw[wX e',bS,g1,aS (by omega) (by omega)];by_cases hh:(u:Int)+(u':Int)=(s.length:Int)
      ·rw[aCy N (wX hh),aB,yH,aJ,aJ,aRz,if_pos ⟨e',hh⟩];dsimp only;rw[aJ,aJ];rfl
      ·rw[vJ N (aE2 hh),aB,yG,aDs,aSh,if_neg (fun q=>hh q.2)];rfl
     ·rw[aE2 g,bC,vJ N rfl,aB,yG,aDs,aSh,if_neg (fun q=>g q.1)];rfl
    |false=>
     rw[k6,bS,if_neg (by decide)];by_cases hh:(dH s).2.1=(s.length:Int)
     ·rw[aCy N (wX hh),aB,yH,aJ,if_pos hh];rfl
     ·rw[vJ N (aE2 hh),aB,yG,if_neg hh];rfl
   ·rw[vJ N (aE2 hk),aB,yG,aDs,aSh,if_neg (fun q=>hk q.2.2)];rfl
  ·rw[aE2 (show((dH s).1.length:Int)≠(c:Int) by omega),bC,vJ N rfl,aB,yG,aDs,aSh,if_neg (fun q=>hl q.2.1)];rfl
 ·rw[aE2 h,bC,vJ N rfl,aB,yG,aDs,aSh,if_neg (fun q=>h q.1)];rfl
theorem aY9{k:Int}{c:Nat}{more:Bool}{v:List Int×List Str}(h:hd s k c more=some v):v.1.length=c/\(∀x∈v.1,I64 x)/\v.2.length<=s.length/\∀x∈v.2,x.length<=s.length:=by
 unfold hd at h;split at h
 ·rename_i hh;obtain⟨e,hl,hk⟩:=hh;rcases aV5 s with⟨_,u,h1,h2,h3,h4⟩|g
  ·split at h
   ·split at h
    ·rename_i hh;cases h;rcases zZ (s.drop (dH s).2.1.toNat)with⟨_,u',g1,g2,g3,g4⟩|g
     ·rw[aw]at g3 g4;exact⟨hl,h4,cg g3 (Nat.sub_le _ _),fun x hx=>cg (g4 x hx) (Nat.sub_le _ _)⟩
     ·exact absurd hh.1 g
    ·cases h
   ·split at h
    ·cases h;exact⟨hl,h4,by simp,fun x hx=>by cases hx⟩
    ·cases h
  ·exact absurd e g
 ·cases h
def uvI(n:Int):Str:=uvarint (zigzag n)
def vP(l:List Int):Str:=uvI (l.length:Int)++l.flatMap uvI
def iV(s:Str):Str:=uvI (s.length:Int)++s
def nL(l:List Str):Str:=uvI (l.length:Int)++l.flatMap iV
theorem bDx(h:I64 n):zigzag n<18446744073709551616:=by obtain⟨h1,h2⟩:=h;unfold zigzag;split<;>omega
theorem bLc(n:Int):unz (zigzag n)=n:=by unfold unz zigzag;split<;>split<;>omega
theorem eE(h:I64 n):1<=(uvI n).length/\(uvI n).length<=10:=⟨uvarint_pos _,uvarint_length64 (bDx h)⟩
theorem bKq(r:Str):∀(x k z:Nat),z+x*128^k<18446744073709551616->(0<x\/k=0)->giN k z (uvarint x++r)=(unz (z+x*128^k),((k+(uvarint x).length:Nat):Int),0):=by
 intro x
 induction x using Nat.strongRecOn with
 |_ x ih=>
  intro k z hb h0;have h9:k=9->x<=1:=fun e=>by subst e;have:128^9=9223372036854775808:=rfl;rw[this]at hb;omega
  by_cases hx:x<128
  ·rw[uvarint_small hx,List.singleton_append,giN];have hc:x.toUInt8.toNat=x:=by show x%256=x;omega
   rw[hc,if_neg (by omega),if_pos hx,ji hx];rfl
  ·rw[uvarint_big (by omega),iu,giN];have hc:(x%128+128).toUInt8.toNat=x%128+128:=by show(x%128+128)%256=_;omega
   have e:z+x%128*128^k+x/128*128^(k+1)=z+x*128^k:=by
    have h1:x/128*128^(k+1)=(x/128*128)*128^k:=by rw[Nat.pow_succ,j5 (128^k) 128,Nat.mul_assoc]
    rw[h1,fw,<-Nat.add_mul];congr 2;omega
   rw[hc,if_neg (by omega),if_neg (by omega),show(x%128+128)%128=x%128 by omega,ih (x/128) (by omega) (k+1) _ (by rw[e];exact hb) (.inl (by omega)),e,bf];have:k+1+(uvarint (x/128)).length=k+((uvarint (x/128)).length+1):=by omega
   rw[this]
theorem aSb(h:I64 n)(r:Str):gi (uvI n++r)=(n,((uvI n).length:Int),0):=by unfold gi uvI;rw[bKq r (zigzag n) 0 0 (by have:=bDx h;omega) (.inr rfl),bg,Nat.pow_zero,Nat.mul_one,bLc,bg]
theorem iQ{n:Nat}(h:n<=1000000):I64 (n:Int):=⟨by omega,by omega⟩
theorem aLz{n:Nat}(h:n<=1000000)(r:Str)(hr:n<=r.length):cR (uvI (n:Int)++r)=((n:Int),((uvI (n:Int)).length:Int),0):=by unfold cR;rw[aSb (iQ h)];rw[if_neg (by simp),if_neg (by simp only;omega),if_neg (by simp only[ι];omega)]
theorem aKu{α:Type}(f:α->Str):∀(l:List α),(∀x∈l,1<=(f x).length)->l.length<=(l.flatMap f).length
 |[],_=>τ _
 |x::l,h=>by rw[eo,ι,bf];have:=aKu f l (fun y hy=>h y (by simp[hy]));have:=h x (by simp);omega
theorem qF(a b:List α):(a++b).drop a.length=b:=by rw[List.drop_append,cd (τ _),cz,lf,cc]
theorem bHq(a b:List α):(a++b).take a.length=a:=by rw[List.take_append,bk (τ _),lf,iq,bb]
theorem aOs(r:Str):∀(l:List Int) (a:Nat) (acc:List Int),(∀x∈l,I64 x)->pB l.length (l.flatMap uvI++r) (a:Int) acc=(acc++l,((a+(l.flatMap uvI).length:Nat):Int),0)
 |[],a,acc,_=>by rw[bb];rfl
 |x::l,a,acc,h=>by rw[eo,υ,bf,pB,aSb (h x (by simp))];rw[if_neg (by simp)];show pB l.length ((uvI x++(l.flatMap uvI++r)).drop ((uvI x).length:Int).toNat) ((a:Int)+((uvI x).length:Int)) (acc++[x])=_;rw[ξ,qF,show((a:Int)+((uvI x).length:Int))=((a+(uvI x).length:Nat):Int) by omega,aOs r l _ _ (fun y hy=>h y (by simp[hy])),υ,ι,fw];rfl
theorem aHf(h:∀x∈l,I64 x)(hl:l.length<=1000000)(r:Str):dH (vP l++r)=(l,((vP l).length:Int),0):=by unfold dH vP;have:=aKu uvI l (fun x hx=>(eE (h x hx)).1);rw[υ,aLz hl _ (by rw[ι];omega),if_neg (by simp)];show pB (l.length:Int).toNat ((uvI (l.length:Int)++(l.flatMap uvI++r)).drop ((uvI (l.length:Int)).length:Int).toNat) ((uvI (l.length:Int)).length:Int) []=_;rw[ξ,ξ,qF,aOs r l _ _ h,cz,ι]
theorem aWq(h:s.length<=1000000)(r:Str):cL (iV s++r)=(s,((iV s).length:Int),0):=by unfold cL iV;rw[υ,aLz h _ (by rw[ι];omega),if_neg (by simp)];show(((uvI (s.length:Int)++(s++r)).drop ((uvI (s.length:Int)).length:Int).toNat).take (s.length:Int).toNat,_,_)=_;rw[ξ,ξ,qF,bHq,ι];refine congrArg (fun x=>(s,x,(0:Int))) ?_;show((uvI (s.length:Int)).length:Int)+(s.length:Int)=_;omega
theorem bEf(h:s.length<=1000000):1<=(iV s).length:=by unfold iV;have:=(eE (iQ h)).1;rw[ι];omega
theorem aP5(r:Str):∀(l:List Str) (a:Nat) (acc:List Str),(∀x∈l,x.length<=1000000)->oY l.length (l.flatMap iV++r) (a:Int) acc=(acc++l,((a+(l.flatMap iV).length:Nat):Int),0)
 |[],a,acc,_=>by rw[bb];rfl
 |x::l,a,acc,h=>by rw[eo,υ,bf,oY,aWq (h x (by simp))];rw[if_neg (by simp)];show oY l.length ((iV x++(l.flatMap iV++r)).drop ((iV x).length:Int).toNat) ((a:Int)+((iV x).length:Int)) (acc++[x])=_;rw[ξ,qF,show((a:Int)+((iV x).length:Int))=((a+(iV x).length:Nat):Int) by omega,aP5 r l _ _ (fun y hy=>h y (by simp[hy])),υ,ι,fw];rfl
theorem aPt{l:List Str}(h:∀x∈l,x.length<=1000000)(hl:l.length<=1000000)(r:Str):eM (nL l++r)=(l,((nL l).length:Int),0):=by unfold eM nL;have:=aKu iV l (fun x hx=>bEf (h x hx));rw[υ,aLz hl _ (by rw[ι];omega),if_neg (by simp)];show oY (l.length:Int).toNat ((uvI (l.length:Int)++(l.flatMap iV++r)).drop ((uvI (l.length:Int)).length:Int).toNat) ((uvI (l.length:Int)).length:Int) []=_;rw[ξ,ξ,qF,aP5 r l _ _ h,cz,ι]
theorem bH6(h:∀x∈l,I64 x)(hl:l.length<=1000000)(k:Int)(c:Nat)(h1:l.length=c)(h2:l.getD 0 0=k):hd (vP l) k c false=some (l,[]):=by unfold hd;have:=aHf h hl [];rw[bb]at this;rw[this,if_pos ⟨rfl,h1,h2⟩,if_neg (by decide),if_pos rfl]
theorem bJr{p:List Str}(h:∀x∈l,I64 x)(hl:l.length<=1000000)(hp:∀x∈p,x.length<=1000000)(hpl:p.length<=1000000)(k:Int)(c:Nat)(h1:l.length=c)(h2:l.getD 0 0=k):hd (vP l++nL p) k c true=some (l,p):=by
 unfold hd;rw[aHf h hl (nL p),if_pos ⟨rfl,h1,h2⟩,if_pos rfl];have e:(vP l++nL p).drop ((l,((vP l).length:Int),(0:Int)).2.1).toNat=nL p:=by show(vP l++nL p).drop ((vP l).length:Int).toNat=nL p;rw[ξ,qF]
 rw[e];have:=aPt hp hpl [];rw[bb]at this;rw[this,if_pos ⟨rfl,by simp only[ι];omega⟩]
theorem bKb(h:∀x∈l,I64 x)(hl:l.length<=1000000)(r:Str)(k:Int)(c:Nat)(more:Bool)(h1:l.length≠c):hd (vP l++r) k c more=none:=by unfold hd;rw[aHf h hl r,if_neg (fun q=>h1 q.2.1)]
abbrev Rd:=Int×(Int×(Int×TB0))
abbrev Pt:=Int×TM
theorem bMi(N m:Nat):iE N (m+1)=iM N (iE N m):=rfl
theorem bM3(N m:Nat):fB N (m+1)=eZ N (fB N m):=rfl
theorem aLl{l:List α}{i:Nat}(h:i<l.length):l.drop i=l[i]::l.drop (i+1):=en h
theorem xS(hN:20<=N)(hn:I64 n):eI N n=some (aE (uvI n)):=bKk N n hN hn
theorem aOn{N:Nat}(hN:20<=N)(l:List Int)(h:∀x∈l,I64 x)(hl:l.length<=100000):∀(k i m:Nat) (acc:List Int),i+k=l.length->k<m->acc.length<=10+10*i->iE N m l ((l.length:Nat):Int) (i:Int) acc=some (acc++aE ((l.drop i).flatMap uvI))
 |k,i,0,acc,_,h,_=>by omega
 |0,i,m+1,acc,hi,_,_=>by
  rw[bMi];unfold iM;rw[aI (decide_eq_false (by omega)),aJ,cd (by omega)];exact congrArg some (bb acc).symm
 |k+1,i,m+1,acc,hi,hm,ha=>by
  have hlt:i<l.length:=by omega
  have hx:=h _ (im hlt);have hu:=eE hx;rw[bMi];unfold iM;rw[aH (decide_eq_true (by omega)),cD (ν hlt),xS hN hx,aB,aJ,aJ,aC (by rw[bQ];omega),aS (by omega) (by omega),aJ,show((i:Int)+1)=((i+1:Nat):Int) by omega,aOn hN l h hl k (i+1) m _ (by omega) (by omega) (by rw[ι,bQ];omega),aLl hlt,eo,sD,υ]
theorem aL1(hN:20<=N)(l:List Int)(h:∀x∈l,I64 x)(hl:l.length<N)(hb:l.length<=100000):gD N l=some (vP l):=by unfold gD zU qW;rw[xS hN (iQ (by omega)),aB,aJ];have hu:=eE (iQ (show l.length<=1000000 by omega));have:=aOn hN l h hb l.length 0 N (aE (uvI (l.length:Int))) (by omega) hl (by rw[bQ];omega);rw[show(((0:Nat):Int))=0 from rfl]at this;rw[this,aB,aJ,aB,aJ,cc,<-sD,fH];rfl
theorem aPl(hN:20<=N)(s:Str)(hs:s.length<=1000000):nS N s=some (aE (iV s)):=by unfold nS;have hu:=eE (iQ hs);rw[xS hN (iQ hs),aB,aJ,aC (by rw[bQ,bQ];omega),aJ,<-sD];rfl
theorem aPw{N:Nat}(hN:20<=N)(l:List Str)(h:∀x∈l,x.length<=100000)(hl:l.length<=100000):∀(k i m:Nat) (acc:List Int),i+k=l.length->k<m->acc.length<=10+200000*i->fB N m l ((l.length:Nat):Int) (i:Int) acc=some (acc++aE ((l.drop i).flatMap iV))
 |k,i,0,acc,_,h,_=>by omega
 |0,i,m+1,acc,hi,_,_=>by
  rw[bM3];unfold eZ;rw[aI (decide_eq_false (by omega)),aJ,cd (by omega)];exact congrArg some (bb acc).symm
 |k+1,i,m+1,acc,hi,hm,ha=>by
  have hlt:i<l.length:=by omega
  have hx:=h _ (im hlt);have hu:(iV l[i]).length<=200000:=by unfold iV;have:=(eE (iQ (show(l[i]).length<=1000000 by omega))).2;rw[ι];omega
  rw[bM3];unfold eZ;rw[aH (decide_eq_true (by omega)),cD (ν hlt),aPl hN _ (by omega),aB,aJ,aJ,aC (by rw[bQ];omega),aS (by omega) (by omega),aJ,show((i:Int)+1)=((i+1:Nat):Int) by omega,aPw hN l h hl k (i+1) m _ (by omega) (by omega) (by rw[ι,bQ];omega),aLl hlt,eo,sD,υ]
theorem aMr(hN:20<=N)(l:List Str)(h:∀x∈l,x.length<=100000)(hl:l.length<N)(hb:l.length<=100000):jM N l=some (aE (nL l)):=by unfold jM mE;rw[xS hN (iQ (by omega)),aB,aJ];have hu:=eE (iQ (show l.length<=1000000 by omega));have:=aPw hN l h hb l.length 0 N (aE (uvI (l.length:Int))) (by omega) hl (by rw[bQ];omega);rw[show(((0:Nat):Int))=0 from rfl]at this;rw[this,aB,aJ,cc,<-sD];rfl
def rl(r:Rd):List Int:=[1,r.1,r.2.1,r.2.2.1,r.2.2.2.1,r.2.2.2.2.1,r.2.2.2.2.2]
def aN4(r:Rd):Str:=vP (rl r)
def okR(r:Rd):Prop:=∀x∈rl r,I64 x
theorem aXm(hN:20<=N){r:Rd}(h:okR r):gA N r=some (aN4 r):=by unfold gA;rw[show[1,r.1,r.2.1,r.2.2.1,r.2.2.2.1,r.2.2.2.2.1,r.2.2.2.2.2]=rl r from rfl,aL1 hN _ h (by show 7<N;omega) (by show 7<=_;omega),aB];rfl
theorem wT{β:Type}{l:List α}{i:Nat}{d:α}{f:α->Option β}(h:i<l.length):aU l (i:Int) f=f (l.getD i d):=by rw[cD (ν h),az,ν h];rfl
def grd(s:Str):Rd×Int:=
 match hd s 1 7 false with
 |none=>((0,(0,(0,(0,(0,0))))),11)
 |some v=>((v.1.getD 1 0,(v.1.getD 2 0,(v.1.getD 3 0,(v.1.getD 4 0,(v.1.getD 5 0,v.1.getD 6 0))))),0)
theorem aNt(s:Str)(hN:11<=N)(hs:s.length<N)(hb:s.length<=1000000):iD N s=some (grd s):=by
 unfold iD grd;rw[show(7:Int)=((7:Nat):Int)from rfl,aY8 s 1 7 false hN hs hb (by omega),aB];cases h:hd s 1 7 false with
 |none=>rfl
 |some v=>
  have hl:=(aY9 h).1;unfold oS;rw[yH,show(1:Int)=((1:Nat):Int)from rfl,wT (d:=0) (by omega),show(2:Int)=((2:Nat):Int)from rfl,wT (d:=0) (by omega),show(3:Int)=((3:Nat):Int)from rfl,wT (d:=0) (by omega),show(4:Int)=((4:Nat):Int)from rfl,wT (d:=0) (by omega),show(5:Int)=((5:Nat):Int)from rfl,wT (d:=0) (by omega),show(6:Int)=((6:Nat):Int)from rfl,wT (d:=0) (by omega)];rfl
theorem bK6{r:Rd}(h:okR r):grd (aN4 r)=(r,0):=by unfold grd aN4;rw[bH6 h (by show 7<=_;omega) 1 7 rfl rfl];rfl
def sgb(b:Bool):Int:=if b then 1 else 0
def prt(p:Pt):List Str:=[uvI p.1,uvI (sgb p.2.1),p.2.2.1,p.2.2.2]
def vl(v:Vr):List Int:=[2,v.1,v.2.1,v.2.2.1,v.2.2.2.1,v.2.2.2.2.1,v.2.2.2.2.2.1,v.2.2.2.2.2.2.1]
abbrev vp(v:Vr):List Pt:=v.2.2.2.2.2.2.2
def aEg(v:Vr):Str:=vP (vl v)++nL ((vp v).flatMap prt)
def okP(l:List Pt):Prop:=∀p∈l,I64 p.1/\p.2.2.1.length<=50000/\p.2.2.2.length<=50000
def okV(v:Vr):Prop:=(∀x∈vl v,I64 x)/\(vp v).length<=1000/\okP (vp v)
theorem aQe:I64 0/\I64 1:=⟨⟨by decide,by decide⟩,⟨by decide,by decide⟩⟩
theorem aXx(b:Bool):I64 (sgb b):=by cases b<;>exact⟨by decide,by decide⟩
theorem pW(l:List Pt):(l.flatMap prt).length=4*l.length:=by
 induction l with
 |nil=>rfl
 |cons x l ih=>rw[eo,ι,ih,bf];show 4+_=_;omega
theorem bD0{l:List Pt}(h:okP l):∀x∈l.flatMap prt,x.length<=50000:=fun x hx=>by
 obtain⟨p,hp,hx⟩:=List.mem_flatMap.1 hx;obtain⟨h1,h2,h3⟩:=h p hp;unfold prt at hx;simp only[bo,fv,or_false]at hx;rcases hx with rfl|rfl|rfl|rfl
 ·have:=(eE h1).2;omega
 ·have:=(eE (aXx p.2.1)).2;omega
 ·exact h2
 ·exact h3
theorem bCb(l:List α)(i:Nat)(h:i<l.length):l.take (i+1)=l.take i++[l[i]]:=by rw[List.take_add_one,ν h];rfl
theorem bS6(N m:Nat):jO N (m+1)=kG N (jO N m):=rfl
theorem aYz{k:Nat}:∀l:List Str,k<=1000000->(∀x∈l,x.length<=k)->(l.flatMap iV).length<=(k+10)*l.length
 |[],_,_=>τ _
 |x::l,hk,h=>by
  have h1:=aYz l hk (fun y hy=>h y (by simp[hy]));have h2:=h x (by simp);have h3:=(eE (iQ (show x.length<=1000000 by omega))).2;have h4:(iV x).length<=k+10:=by unfold iV;rw[ι];omega
  rw[eo,ι,bf,Nat.mul_succ];omega
theorem bGx:∀l:List Int,(∀x∈l,I64 x)->(l.flatMap uvI).length<=10*l.length
 |[],_=>τ _
 |x::l,h=>by have h1:=bGx l (fun y hy=>h y (by simp[hy]));have h2:=(eE (h x (by simp))).2;rw[eo,ι,bf];omega
theorem aSm(h:∀x∈l,I64 x)(hb:l.length<=1000000):(vP l).length<=10*l.length+10:=by unfold vP;have:=(eE (iQ hb)).2;have:=bGx l h;rw[ι];omega
theorem aJ8{l:List Str}{k:Nat}(hk:k<=1000000)(h:∀x∈l,x.length<=k)(hb:l.length<=1000000):(nL l).length<=(k+10)*l.length+10:=by unfold nL;have:=(eE (iQ hb)).2;have:=aYz l hk h;rw[ι];omega
theorem aUr{N:Nat}(hN:20<=N)(v:Vr)(hv:okV v)(hl:4*(vp v).length<N):∀(k i m:Nat),i+k=(vp v).length->k<m->jO N m (vp v) (((vp v).length:Nat):Int) (i:Int) v.1 v.2.1 v.2.2.1 v.2.2.2.1 v.2.2.2.2.1 v.2.2.2.2.2.1 v.2.2.2.2.2.2.1 (vp v) (((vp v).take i).flatMap prt)=some (aEg v)
 |k,i,0,_,h=>by omega
 |0,i,m+1,hi,_=>by
  obtain⟨h1,h2,h3⟩:=hv;rw[bS6];unfold kG;rw[aI (decide_eq_false (by omega)),bk (by omega)];have e:=aL1 hN (vl v) h1 (by show 8<N;omega) (by show 8<=_;omega);show bd? (gD N (vl v)) _=_;have hs:=bD0 h3;rw[e,aB,aJ,aMr hN _ (fun x hx=>by have:=hs x hx;omega) (by rw[pW];omega) (by rw[pW];omega),aB,aJ,fH];refine aC ?_;have a1:=aSm h1 (by show 8<=_;omega);have a2:=aJ8 (by omega) hs (by rw[pW];omega);have h9:(vl v).length=8:=rfl;rw[pW]at a2;have a3:(50000+10)*(4*(vp v).length)<=50010*4000:=lq _ (by omega);omega
 |k+1,i,m+1,hi,hm=>by
  have hlt:i<(vp v).length:=by omega
  obtain⟨h1,h2,h3⟩:=hv;obtain⟨g1,g2,g3⟩:=h3 _ (im hlt);have hlen:(((vp v).take i).flatMap prt).length<=4000:=by rw[pW,bn];omega
  have ih:=aUr hN v ⟨h1,h2,h3⟩ hl k (i+1) m (by omega) (by omega);rw[bCb _ _ hlt,List.flatMap_append]at ih;have e:([(vp v)[i]]:List Pt).flatMap prt=[uvI (vp v)[i].1,uvI (sgb (vp v)[i].2.1),(vp v)[i].2.2.1,(vp v)[i].2.2.2]:=by rw[eo,List.flatMap_nil,bb];rfl
  rw[e]at ih;rw[bS6];unfold kG;rw[aH (decide_eq_true (by omega)),cD (ν hlt)];generalize(vp v)[i]=p at*;obtain⟨st,ng,a,b⟩:=p;dsimp only at*;cases ng with
  |true=>
   rw[bS,aJ,aB];dsimp only;rw[xS hN g1,aB,aJ,xS hN aQe.2,aB,aJ,aJ,fH,fH,aC (by simp only[bf,cf];omega),aS (by omega) (by omega),aJ];exact ih
  |false=>
   rw[bC,aJ,aB];dsimp only;rw[xS hN g1,aB,aJ,xS hN aQe.1,aB,aJ,aJ,fH,fH,aC (by simp only[bf,cf];omega),aS (by omega) (by omega),aJ];exact ih
theorem aX8(hN:20<=N)(h:okV v)(hl:4*(vp v).length<N):gL N v=some (aEg v):=by unfold gL;exact aUr hN v h hl (vp v).length 0 N (by omega) (by omega)
def one(s:Str):Option Int:=if(gi s).2.2=0/\(gi s).2.1=(s.length:Int)then some (gi s).1 else none
theorem bHj(hN:11<=N)(s:Str):sG N s=some (oS (one s)):=by
 unfold sG one;rw[aA3 hN,aB];by_cases e:(gi s).2.2=0
 ·rw[wX e,bS];by_cases hh:(gi s).2.1=(s.length:Int)
  ·rw[aCy N (wX hh),aB,yH,aRz,if_pos ⟨e,hh⟩];rfl
  ·rw[vJ N (aE2 hh),aB,yG,aDs,aSh,if_neg (fun q=>hh q.2)];rfl
 ·rw[aE2 e,bC,vJ N rfl,aB,yG,aDs,aSh,if_neg (fun q=>e q.1)];rfl
def pts:List Str->List Pt->Option (List Pt)
 |a::b::c::d::r,acc=>match one a,one b with
  |some st,some ng=>if ng=0\/ng=1 then pts r (acc++[(st,(ng==1,(c,d)))])else none
  |_,_=>none
 |_,acc=>some acc
def vz:Vr:=(0,(0,(0,(0,(0,(0,(0,[])))))))
def vD(l:List Int)(p:List Pt):Vr:=(l.getD 1 0,(l.getD 2 0,(l.getD 3 0,(l.getD 4 0,(l.getD 5 0,(l.getD 6 0,(l.getD 7 0,p)))))))
def gvr(s:Str):Vr×Int:=
 match hd s 2 8 true with
 |none=>(vz,11)
 | some v=>if v.2.length % 4=0 then
   match pts v.2 []with
   |none=>(vz,11)
   |some l=>(vD v.1 l,0)
  else(vz,11)
def fl(v:Vr×Int):Int×(Int×(Int×(Int×(Int×(Int×(Int×(List Pt×Int))))))):=(v.1.1,(v.1.2.1,(v.1.2.2.1,(v.1.2.2.2.1,(v.1.2.2.2.2.1,(v.1.2.2.2.2.2.1,(v.1.2.2.2.2.2.2.1,(v.1.2.2.2.2.2.2.2,v.2))))))))
def pt'(l:List Int):Option (List Pt)->Vr×Int
 |none=>(vz,11)
 |some p=>(vD l p,0)
theorem bTe(N m:Nat):cY N (m+1)=fQ N (cY N m):=rfl
theorem aGc(N:Nat)(e:Int):cF N e=some 11:=rfl
theorem bEo(N:Nat)(e:Int):lK N e=some e:=rfl
theorem aVp{N:Nat}(hN:11<=N)(v:List Int)(hv:v.length=8):∀(k m:Nat) (l:List Str) (acc:List Pt),l.length=4*k->k<m->acc.length+k<=1000000->
  cY N m v l 0 0 0 0 0 0 0 0 [] acc=some (fl (pt' v (pts l acc)))
 |k,0,l,acc,_,h,_=>by omega
 |0,m+1,l,acc,hl,_,_=>by
  have:l=[]:=de.1 (by omega);subst this;rw[bTe];unfold fQ;rw[aI (by rfl),show(1:Int)=((1:Nat):Int)from rfl,wT (d:=0) (by omega),show(2:Int)=((2:Nat):Int)from rfl,wT (d:=0) (by omega),show(3:Int)=((3:Nat):Int)from rfl,wT (d:=0) (by omega),show(4:Int)=((4:Nat):Int)from rfl,wT (d:=0) (by omega),show(5:Int)=((5:Nat):Int)from rfl,wT (d:=0) (by omega),show(6:Int)=((6:Nat):Int)from rfl,wT (d:=0) (by omega),show(7:Int)=((7:Nat):Int)from rfl,wT (d:=0) (by omega)];simp only[bT2,bEo,aB,aJ];rfl
 |k+1,m+1,l,acc,hl,hm,hb=>by
  obtain⟨a,b,c,d,r,rfl⟩:∃a b c d r,l=a::b::c::d::r:=by
   match l,hl with
   |a::b::c::d::r,_=>exact⟨a,b,c,d,r,rfl⟩
   |[],h=>simp at h
   |[_],h=>simp at h;omega
   |[_,_],h=>simp at h;omega
   |[_,_,_],h=>simp at h;omega
  have hr:r.length=4*k:=by simp only[bf]at hl;omega
  have e4:List.take ((a::b::c::d::r).length-4) (List.drop 4 (a::b::c::d::r))=r:=by show r.take (r.length+4-4)=r;rw[Nat.add_sub_cancel,List.take_length]
  have fin:∀(st ng:Int) (x:Bool),x=(ng==1)->(gd? ((((acc.length+[(st,(x,(c,d)))].length)*48)<=140737488355328)) (gd? ((4<=(a::b::c::d::r).length)) (gd? (((a::b::c::d::r).length<=(a::b::c::d::r).length)) (gl? (([]:List Pt).length) ([]:List Pt) (gl? ((acc++[(st,(x,(c,d)))]).length) ((acc++[(st,(x,(c,d)))])) (cY N m v (List.take ((a::b::c::d::r).length-4) (List.drop 4 (a::b::c::d::r))) 0 0 0 0 0 0 0 0 [] (acc++[(st,(x,(c,d)))])))))))=cY N m v r 0 0 0 0 0 0 0 0 [] (acc++[(st,(ng==1,(c,d)))]):=fun st ng x hx=>by subst hx;rw[aC (by simp only[bf,cf];omega),aC (by simp only[bf];omega),aC (τ _),aJ,aJ,e4]
  rw[bTe];unfold fQ;rw[aH (decide_eq_true (by simp only[bf];omega)),qO (x:=a) (by decide) rfl,qO (x:=b) (by decide) rfl,bHj hN,aB,bHj hN,pts];cases ha:one a with
  |none=>
   unfold oS;rw[yG,aGc,aB,aJ];rfl
  |some st=>
   cases hb2:one b with
   |none=>
    unfold oS;rw[yH,aB,yG,aGc,aB,aJ];rfl
   |some ng=>
    unfold oS;rw[yH,aB,yH];have ih:=aVp hN v hv k m r (acc++[(st,(ng==1,(c,d)))]) hr (by omega) (by simp only[ι,bf,cf];omega);by_cases h0:ng=0
    ·rw[wX h0,bS,aCy N rfl,aB,yH,aJ,aJ,aRz];dsimp only;rw[qO (x:=c) (by decide) rfl,qO (x:=d) (by decide) rfl,aJ];refine(fin st ng _ rfl).trans (ih.trans ?_);simp only[h0,true_or,if_true]
    ·rw[aE2 h0,bC];by_cases h1:ng=1
     ·rw[aCy N (wX h1),aB,yH,aJ,aJ,aRz];dsimp only;rw[qO (x:=c) (by decide) rfl,qO (x:=d) (by decide) rfl,aJ];refine(fin st ng _ rfl).trans (ih.trans ?_);simp only[if_pos (Or.inr h1:ng=0\/ng=1)]
     ·rw[vJ N (aE2 h1),aB,yG,aGc,aB,aJ,aDs,aSh];simp only[h0,h1,or_self,if_false];rfl
theorem aNz(s:Str)(hN:11<=N)(hs:s.length+1<N)(hb:s.length<=100000):iK N s=some (fl (gvr s)):=by
 unfold iK gvr;rw[show(8:Int)=((8:Nat):Int)from rfl,aY8 s 2 8 true hN (by omega) (by omega) (by omega),aB];cases h:hd s 2 8 true with
 |none=>rfl
 |some v=>
  obtain⟨hl,_,hp,_⟩:=aY9 h;unfold oS;rw[yH];dsimp only;by_cases h4:v.2.length%4=0
  ·have:ei (v.2.length:Int) 4=0:=by rw[show(4:Int)=((4:Nat):Int)from rfl,<-mw,h4];rfl
   rw[aCy N (wX this),aB,yH,aVp hN v.1 hl (v.2.length/4) N v.2 [] (by omega) (by omega) (by simp;omega),if_pos h4];cases pts v.2 []<;>rfl
  ·have:ei (v.2.length:Int) 4≠0:=by rw[show(4:Int)=((4:Nat):Int)from rfl,<-mw];omega
   rw[vJ N (aE2 this),aB,yG,aGc,aB,if_neg h4];rfl
theorem aZb(h:I64 n):one (uvI n)=some n:=by unfold one;have:=aSb h [];rw[bb]at this;rw[this,if_pos ⟨rfl,rfl⟩]
theorem aY5:∀(l acc:List Pt),(∀p∈l,I64 p.1)->pts (l.flatMap prt) acc=some (acc++l)
 |[],acc,_=>by rw[bb];rfl
 |p::l,acc,h=>by
  rw[eo];show pts (uvI p.1::uvI (sgb p.2.1)::p.2.2.1::p.2.2.2::l.flatMap prt) acc=_;rw[pts,aZb (h p (by simp)),aZb (aXx _)];have e:((p.1,(sgb p.2.1==1,(p.2.2.1,p.2.2.2))):Pt)=p:=by obtain⟨st,ng,a,b⟩:=p;cases ng<;>rfl
  have h01:sgb p.2.1=0\/sgb p.2.1=1:=by cases p.2.1<;>simp[sgb]
  simp only[if_pos h01];rw[e,aY5 l _ (fun q hq=>h q (by simp[hq])),υ];rfl
theorem bKa(h:okV v):gvr (aEg v)=(v,0):=by obtain⟨h1,h2,h3⟩:=h;unfold gvr aEg;have hp:=bD0 h3;rw[bJr h1 (by show 8<=_;omega) (fun x hx=>by have:=hp x hx;omega) (by rw[pW];omega) 2 8 rfl rfl];simp only;rw[if_pos (by rw[pW];omega),aY5 _ [] (fun p hp=>(h3 p hp).1)];rfl
theorem bS1(h:okV v):(grd (aEg v)).2=11:=by unfold grd aEg;rw[bKb h.1 (by show 8<=_;omega) _ 1 7 false (by show 8≠7;omega)]
end Go.Proofs.Tryz
set_option maxRecDepth 8000
set_option synthInstance.maxSize 100000
set_option synthInstance.maxHeartbeats 400000
namespace Go.Proofs.Tryz
open Go.Eng Go.RowKit Go.Nt
variable{N:Nat}{α:Type}{l p3:List Rd}{p4 vs:List Vr}
theorem aIa{a b:Bool}:if? a (some b) (some false)=some (a&&b):=by cases a<;>rfl
theorem aJg(P:List α)(c:α)(R:List α):(P++c::R)[P.length]?=some c:=by rw[List.getElem?_append_right (τ _),lf];rfl
def wi(n lo hi:Int):Bool:=decide (n≥lo)&&decide (n<=hi)
theorem bO8(N:Nat)(a b c:Int):cS N a b c=some (wi a b c):=by unfold cS;rw[aIa,aB];rfl
def rr(r:Rd):Bool:=wi r.1 0 39&&(wi r.2.1 0 1099511627776&&(decide (r.2.2.1≥0)&&(decide (r.2.2.1<r.2.2.2.1)&&(decide (r.2.2.2.1<=1402560)&&(wi r.2.2.2.2.1 0 1000&&wi r.2.2.2.2.2 0 14609)))))
theorem bFg(N:Nat)(r:Rd):eS N r=some (rr r):=by unfold eS;simp only[bO8,aB,aIa];rfl
theorem bEv(m:Nat):tP (m+1)=tY (tP m):=rfl
theorem or2(hN:3<=N)(a b:Int):rQ N [a,b]=some (if a≠0 then a else b):=by
 obtain⟨m,rfl⟩:∃m,N=m+3:=⟨N-3,by omega⟩;unfold rQ;rw[bEv,bEv,bEv];unfold tY;rw[aH (by rfl),qO (x:=a) (by decide) rfl];by_cases ha:a=0
 ·rw[aI (by rw[bne_eq_false_iff_eq];exact ha),aS (by decide) (by decide),aH (by rfl),qO (x:=b) (by decide) rfl,if_neg (by omega)];by_cases hb:b=0
  ·rw[aI (by rw[bne_eq_false_iff_eq];exact hb),aS (by decide) (by decide),aI (by rfl),hb]
  ·rw[aH (by rw[bne_iff_ne];exact hb)]
 ·rw[aH (by rw[bne_iff_ne];exact ha),if_pos ha]
def aX2(x y:Rd):Int:=if kK x.1 y.1≠0 then kK x.1 y.1 else kK x.2.1 y.2.1
theorem bOt(hN:3<=N)(x y:Rd):eO N x y=some (aX2 x y):=by unfold eO;rw[aA8,aB,aA8,aB,or2 hN,aB];rfl
def rlt(x y:Rd):Prop:=x.1<y.1\/(x.1=y.1/\x.2.1<y.2.1)
theorem bLt{x y:Rd}:aX2 x y<0↔rlt x y:=by
 unfold aX2 kK rlt
 repeat' split
 all_goals omega
theorem bP8{x y z:Rd}(h:rlt x y)(h':rlt y z):rlt x z:=by unfold rlt at*;omega
abbrev SRr(l:List Rd):Prop:=l.Pairwise rlt
def chT:Rd->List Rd->Bool
 |_,[]=>true
 |c,y::r=>rr y&&(decide (aX2 c y<0)&&chT y r)
def chA:List Rd->Bool
 |[]=>true
 |x::r=>rr x&&chT x r
theorem bQz(N m:Nat):iF N (m+1)=fG N (iF N m):=rfl
theorem aOa{N n:Nat}(hN:3<=N)(hn:n<=100000):∀(R:List Rd) (m:Nat) (P:List Rd) (c:Rd),R.length<m->P.length+1+R.length=n->
  iF N m (P++c::R) (P++c::R) (n:Int) ((P.length+1:Nat):Int)=some (if chT c R then 0 else 1)
 |_,0,_,_,h,_=>absurd h (cj _)
 |[],m+1,P,c,hm,h3=>by
  have h3:P.length+1=n:=h3;rw[bQz];unfold fG;rw[aI (decide_eq_false (by omega))];rfl
 |y::R,m+1,P,c,hm,h3=>by
  have lr:(y::R).length=R.length+1:=rfl;rw[lr]at h3 hm;have r1:P++(c::y::R)=(P++[c])++y::R:=by simp
  have l1:(P++[c]).length=P.length+1:=by simp
  have g1:(P++(c::y::R))[P.length+1]?=some y:=by rw[r1,<-l1];exact aJg _ y _
  have g2:(P++(c::y::R))[P.length]?=some c:=aJg P c _;have nxt:=aOa hN hn R m (P++[c]) y (by omega) (by rw[l1];omega);rw[l1,<-r1]at nxt;have e1:((P.length+1:Nat):Int)-1=(P.length:Int):=by omega
  rw[bQz];unfold fG;rw[aH (decide_eq_true (by omega)),cD g1];show bd? (bd? (eS N y) _) _=_;rw[bFg,aB];show _=some (if rr y&&(decide (aX2 c y<0)&&chT y R)then 0 else 1);cases hr:rr y with
  |false=>rfl
  |true=>
   rw[dq,bC,aH (decide_eq_true (by omega)),e1,aS (by omega) (by omega),cD g2];show bd? (bd? (eO N c y) _) _=_;rw[bOt hN,aB,aB];dsimp only;by_cases hlt:aX2 c y<0
   ·rw[aI (decide_eq_false (by omega)),aS (by omega) (by omega),show((P.length+1:Nat):Int)+1=((P.length+1+1:Nat):Int) by omega,nxt,decide_eq_true hlt];rfl
   ·rw[aH (decide_eq_true (by omega)),decide_eq_false hlt];rfl
def ckR(l:List Rd):Int:=if l.length>4000 then 2 else if chA l then 0 else 1
theorem bOe(hN:4005<=N):gW N l=some (ckR l):=by
 unfold gW ckR;by_cases hl:l.length>4000
 ·rw[aH (decide_eq_true (by omega)),if_pos hl]
 ·rw[aI (decide_eq_false (by omega)),if_neg hl];obtain⟨m,rfl⟩:∃m,N=m+1:=⟨N-1,by omega⟩;rw[bQz];unfold fG;cases l with
  |nil=>rfl
  |cons x R=>
   have lr:(x::R).length=R.length+1:=rfl;rw[lr]at hl;have nxt:=aOa (N:=m+1) (n:=R.length+1) (by omega) (by omega) R m [] x (by omega) (by show 0+1+_=_;omega);rw[aH (decide_eq_true (by rw[lr];omega)),qO (x:=x) (by decide) rfl];show bd? (bd? (eS (m+1) x) _) _=_;rw[bFg,aB];show _=some (if rr x&&chT x R then 0 else 1);cases hr:rr x with
   |false=>rfl
   |true=>
    rw[dq,bC,aI (by rfl),aB];dsimp only;rw[bC,aS (by decide) (by decide)];exact nxt
theorem aZj:∀(R:List Rd) (c:Rd),chT c R=true↔(∀y∈R,rr y=true)/\SRr (c::R)
 |[],c=>by simp[chT]
 |y::R,c=>by
  show(rr y&&(decide (aX2 c y<0)&&chT y R))=true↔_;rw[μ,μ,decide_eq_true_eq,bLt,aZj R y];constructor
  ·rintro⟨h1,h2,h3,h4⟩;refine⟨fun z hz=>?_,gz.2 ⟨fun z hz=>?_,h4⟩⟩
   ·rcases bo.1 hz with rfl|hz
    ·exact h1
    ·exact h3 z hz
   ·rcases bo.1 hz with rfl|hz
    ·exact h2
    ·exact bP8 h2 ((gz.1 h4).1 z hz)
  ·rintro⟨h1,h2⟩;have h2:=gz.1 h2;exact⟨h1 y cr,h2.1 y cr,fun z hz=>h1 z (cp _ hz),h2.2⟩
theorem bJl(l:List Rd):chA l=true↔(∀y∈l,rr y=true)/\SRr l:=by
 cases l with
 |nil=>simp[chA]
 |cons x R=>
  show(rr x&&chT x R)=true↔_;rw[μ,aZj];constructor
  ·rintro⟨h1,h2,h3⟩;refine⟨fun z hz=>?_,h3⟩;rcases bo.1 hz with rfl|hz
   ·exact h1
   ·exact h2 z hz
  ·rintro⟨h1,h2⟩;exact⟨h1 x cr,fun z hz=>h1 z (cp _ hz),h2⟩
theorem bFb(l:List Rd):ckR l=0↔l.length<=4000/\(∀y∈l,rr y=true)/\SRr l:=by
 unfold ckR;rw[<-bJl];split
 ·constructor
  ·intro h;cases h
  ·rintro⟨h,_⟩;omega
 ·split
  ·rename_i h1 h2;exact⟨fun _=>⟨by omega,h2⟩,fun _=>rfl⟩
  ·rename_i h1 h2;exact⟨fun h=>(by cases h),fun h=>absurd h.2 h2⟩
def rep(x y:Rd):Prop:=x.1=y.1/\x.2.1=y.2.1/\x.2.2.1=y.2.2.1/\x.2.2.2.1=y.2.2.2.1/\x.2.2.2.2.1=y.2.2.2.2.1
instance(x y:Rd):Decidable (rep x y):=inferInstanceAs (Decidable (_/\_))
set_option maxRecDepth 8000
set_option synthInstance.maxSize 100000
set_option synthInstance.maxHeartbeats 400000
def smP(l:List Pt):Prop:=∀p∈l,p.2.2.1.length<=50000/\p.2.2.2.length<=50000
theorem onC(N:Nat)(a:Int):∃b,lG N a=some b:=by unfold lG;rw[aIa,aB];exact⟨_,rfl⟩
theorem bUc(hN:17179869184<N){p:Rt}(h:p.2.1.length<=50000/\p.2.2.length<=50000):∃b,gC N p=some b:=by unfold gC;have:=aFi (N:=N) (p:=p) (by omega) (by omega) hN;have:mX N (p.1,(p.2.1,p.2.2))=some (rv p):=this;rw[this,aB,aIa,aB];exact⟨_,rfl⟩
theorem bR5(N m:Nat):gY N (m+1)=lJ N (gY N m):=rfl
theorem aMc{N:Nat}(hN:17179869184<N)(l:List Pt)(h:smP l)(hl:l.length<=100000):∀(k m i:Nat),i+k=l.length->k<m->∃c,gY N m l ((l.length:Nat):Int) (i:Int) l=some c
 |_,0,_,_,h=>absurd h (cj _)
 |0,m+1,i,h1,_=>by
  rw[bR5];unfold lJ;rw[aI (decide_eq_false (by omega))];exact⟨_,rfl⟩
 |k+1,m+1,i,h1,h2=>by
  have hlt:i<l.length:=by omega
  rw[bR5];unfold lJ;rw[aH (decide_eq_true (by omega)),cD (ν hlt)];obtain⟨b,hb⟩:=onC N l[i].1;rw[hb,aB];cases b with
  |false=>exact⟨_,rfl⟩
  |true=>
   rw[dq,bC];have hs:=h _ (im hlt);obtain⟨c,hc⟩:=bUc hN (p:=l[i].2) hs;have hc:gC N (l[i].2.1,(l[i].2.2.1,l[i].2.2.2))=some c:=hc;rw[hc,aB];cases c with
   |false=>exact⟨_,rfl⟩
   |true=>
    rw[dq,bC];obtain⟨c,nxt⟩:=aMc hN l h hl k m (i+1) (by omega) (by omega);have fin:∀x:Bool,∃c,(bd? (some (l,((l.length:Nat):Int),(i:Int),x,l)) fun w14=>if? (w14.2.2.2.1) (some (1:Int)) (ck .i64 ((w14.2.2.1+1)) (gY N m w14.1 w14.2.1 (w14.2.2.1+1) w14.2.2.2.2)))=some c:=fun x=>by
     rw[aB];dsimp only;cases x with
     |true=>exact⟨_,rfl⟩
     |false=>
      rw[bC,aS (by omega) (by omega),show(i:Int)+1=((i+1:Nat):Int) by omega,nxt];exact⟨_,rfl⟩
    by_cases h0:i=0
    ·subst h0;rw[aI (by rfl)];exact fin _
    ·have hlt':i-1<l.length:=by omega
     have e1:(i:Int)-1=((i-1:Nat):Int):=by omega
     rw[aH (decide_eq_true (by omega)),e1,aS (by omega) (by omega),cD (ν hlt')];by_cases h3:l[i].1<=l[i-1].1
     ·rw[aH (decide_eq_true h3)];exact fin _
     ·have hs':=h _ (im hlt');have hcm:=aYe (N:=N) (p:=l[i].2) (q:=l[i-1].2) (by omega) (by omega) (by omega) (by omega) hN;have hcm:wE N (l[i].2.1,(l[i].2.2.1,l[i].2.2.2)) (l[i-1].2.1,(l[i-1].2.2.1,l[i-1].2.2.2))=some (bO9 l[i].2 l[i-1].2):=hcm;rw[aI (decide_eq_false h3),aS (by omega) (by omega),cD (ν hlt'),hcm,aB];exact fin _
theorem bQu(hN:17179869184<N)(l:List Pt)(h:smP l):∃c,pX N l=some c:=by
 unfold pX;by_cases h1:l.length<1
 ·rw[aH (decide_eq_true (by omega)),aB];exact⟨_,rfl⟩
 ·rw[aI (decide_eq_false (by omega)),aB];dsimp only;by_cases h2:l.length>16
  ·rw[aH (decide_eq_true (by omega))];exact⟨_,rfl⟩
  ·rw[aI (decide_eq_false (by omega))];exact aMc hN l h (by omega) l.length N 0 (by omega) (by omega)
theorem bMe{c:Bool}{a b:Option α}(ha:∃x,a=some x)(hb:∃x,b=some x):∃x,if? c a b=some x:=by
 cases c
 ·exact hb
 ·exact ha
theorem bFa{β:Type}{a:Option α}{f:α->Option β}{P:α->Prop}(ha:∃x,a=some x/\P x)(hf:∀x,P x->∃y,f x=some y):∃y,bd? a f=some y:=by obtain⟨x,rfl,hp⟩:=ha;exact hf x hp
theorem aNn{P:α->Prop}{c:Bool}{a b:Option α}(ha:∃x,a=some x/\P x)(hb:∃x,b=some x/\P x):∃x,if? c a b=some x/\P x:=by
 cases c
 ·exact hb
 ·exact ha
theorem bS8(k:Int):∃o:Option Int,fM (oT (oT ([]:(List TL)) 2 1000) 3 960) k=o/\0<=o.getD 0/\o.getD 0<=1000:=by
 refine⟨_,rfl,?_⟩;by_cases h2:k=2
 ·subst h2;decide
 ·by_cases h3:k=3
  ·subst h3;decide
  ·have:fM (oT (oT ([]:(List TL)) 2 1000) 3 960) k=none:=by
    have e:oT (oT ([]:(List TL)) 2 1000) 3 960=[(2,1000),(3,960)]:=by decide
    rw[e];simp[fM,Ne.symm h2,Ne.symm h3]
   rw[this];decide
theorem bQn(hN:17179869184<N)(v:Vr)(h:smP (vp v)):∃b,cZ N v=some b:=by
 unfold cZ;refine bFa (P:=fun w=>w.2=v) ?_ ?_
 ·repeat' first
   |exact⟨_,rfl,rfl⟩
   |refine aNn ?_ ?_
 ·rintro⟨x,w⟩ hw;have hw:w=v:=hw;subst hw;dsimp only;refine bMe ⟨_,rfl⟩ (bMe ?_ ?_)
  ·refine bFa (P:=fun _=>True) ?_ fun x _=>⟨_,rfl⟩;refine aNn ?_ ⟨_,rfl,trivial⟩;obtain⟨c,hc⟩:=bQu hN (vp w) h;rw[show w.2.2.2.2.2.2.2=vp w from rfl,hc,aB];exact⟨_,rfl,trivial⟩
  ·refine bFa (P:=fun _=>True) ?_ fun x _=>⟨_,rfl⟩;obtain⟨o,ho,h1,h2⟩:=bS8 w.1;rw[ho];refine aNn (aNn ?_ ⟨_,rfl,trivial⟩) ⟨_,rfl,trivial⟩;rw[aS (by omega) (by omega)];exact aNn ⟨_,rfl,trivial⟩ ⟨_,rfl,trivial⟩
def vr(N:Nat)(v:Vr):Bool:=(cZ N v).getD false
theorem aO3(hN:17179869184<N){v:Vr}(h:smP (vp v)):cZ N v=some (vr N v):=by obtain⟨b,hb⟩:=bQn hN v h;unfold vr;rw[hb];rfl
def aP8(N:Nat):Vr->List Vr->Bool
 |_,[]=>true
 |c,y::r=>vr N y&&(decide (aVd c y<0)&&aP8 N y r)
def bQj(N:Nat):List Vr->Bool
 |[]=>true
 |x::r=>vr N x&&aP8 N x r
def smV(l:List Vr):Prop:=∀v∈l,smP (vp v)
theorem bN7(N m:Nat):iJ N (m+1)=fE N (iJ N m):=rfl
theorem aPz{N n:Nat}(hN:17179869184<N)(hn:n<=100000):∀(R:List Vr) (m:Nat) (P:List Vr) (c:Vr),smV R->R.length<m->P.length+1+R.length=n->
  iJ N m (P++c::R) (P++c::R) (n:Int) ((P.length+1:Nat):Int)=some (if aP8 N c R then 0 else 1)
 |_,0,_,_,_,h,_=>absurd h (cj _)
 |[],m+1,P,c,_,hm,h3=>by
  have h3:P.length+1=n:=h3;rw[bN7];unfold fE;rw[aI (decide_eq_false (by omega))];rfl
 |y::R,m+1,P,c,hs,hm,h3=>by
  have lr:(y::R).length=R.length+1:=rfl;rw[lr]at h3 hm;have r1:P++(c::y::R)=(P++[c])++y::R:=by simp
  have l1:(P++[c]).length=P.length+1:=by simp
  have g1:(P++(c::y::R))[P.length+1]?=some y:=by rw[r1,<-l1];exact aJg _ y _
  have g2:(P++(c::y::R))[P.length]?=some c:=aJg P c _;have nxt:=aPz hN hn R m (P++[c]) y (fun v hv=>hs v (cp _ hv)) (by omega) (by rw[l1];omega);rw[l1,<-r1]at nxt;have e1:((P.length+1:Nat):Int)-1=(P.length:Int):=by omega
  rw[bN7];unfold fE;rw[aH (decide_eq_true (by omega)),cD g1];show bd? (bd? (cZ N y) _) _=_;rw[aO3 hN (hs y cr),aB];show _=some (if vr N y&&(decide (aVd c y<0)&&aP8 N y R)then 0 else 1);cases hr:vr N y with
  |false=>rfl
  |true=>
   rw[dq,bC,aH (decide_eq_true (by omega)),e1,aS (by omega) (by omega),cD g2];show bd? (bd? (dX N c y) _) _=_;rw[bH5,aB,aB];dsimp only;by_cases hlt:aVd c y<0
   ·rw[aI (decide_eq_false (by omega)),aS (by omega) (by omega),show((P.length+1:Nat):Int)+1=((P.length+1+1:Nat):Int) by omega,nxt,decide_eq_true hlt];rfl
   ·rw[aH (decide_eq_true (by omega)),decide_eq_false hlt];rfl
def ckV(N:Nat)(l:List Vr):Int:=if l.length>400 then 2 else if bQj N l then 0 else 1
theorem bOp{l:List Vr}(hN:17179869184<N)(hs:smV l):gX N l=some (ckV N l):=by
 unfold gX ckV;by_cases hl:l.length>400
 ·rw[aH (decide_eq_true (by omega)),if_pos hl]
 ·rw[aI (decide_eq_false (by omega)),if_neg hl];obtain⟨m,rfl⟩:∃m,N=m+1:=⟨N-1,by omega⟩;rw[bN7];unfold fE;cases l with
  |nil=>rfl
  |cons x R=>
   have lr:(x::R).length=R.length+1:=rfl;rw[lr]at hl;have nxt:=aPz (N:=m+1) (n:=R.length+1) hN (by omega) R m [] x (fun v hv=>hs v (cp _ hv)) (by omega) (by show 0+1+_=_;omega);rw[aH (decide_eq_true (by rw[lr];omega)),qO (x:=x) (by decide) rfl];show bd? (bd? (cZ (m+1) x) _) _=_;rw[aO3 hN (hs x cr),aB];show _=some (if vr (m+1) x&&aP8 (m+1) x R then 0 else 1);cases hr:vr (m+1) x with
   |false=>rfl
   |true=>
    rw[dq,bC,aI (by rfl),aB];dsimp only;rw[bC,aS (by decide) (by decide)];exact nxt
theorem bPy{x y z:Vr}(h:vlt x y)(h':vlt y z):vlt x z:=by unfold vlt at*;omega
theorem aWh{N:Nat}:∀(R:List Vr) (c:Vr),aP8 N c R=true↔(∀y∈R,vr N y=true)/\SSr (c::R)
 |[],c=>by simp[aP8]
 |y::R,c=>by
  show(vr N y&&(decide (aVd c y<0)&&aP8 N y R))=true↔_;rw[μ,μ,decide_eq_true_eq,bFx,aWh R y];constructor
  ·rintro⟨h1,h2,h3,h4⟩;refine⟨fun z hz=>?_,gz.2 ⟨fun z hz=>?_,h4⟩⟩
   ·rcases bo.1 hz with rfl|hz
    ·exact h1
    ·exact h3 z hz
   ·rcases bo.1 hz with rfl|hz
    ·exact h2
    ·exact bPy h2 ((gz.1 h4).1 z hz)
  ·rintro⟨h1,h2⟩;have h2:=gz.1 h2;exact⟨h1 y cr,h2.1 y cr,fun z hz=>h1 z (cp _ hz),h2.2⟩
theorem bF4(l:List Vr):bQj N l=true↔(∀y∈l,vr N y=true)/\SSr l:=by
 cases l with
 |nil=>simp[bQj]
 |cons x R=>
  show(vr N x&&aP8 N x R)=true↔_;rw[μ,aWh];constructor
  ·rintro⟨h1,h2,h3⟩;refine⟨fun z hz=>?_,h3⟩;rcases bo.1 hz with rfl|hz
   ·exact h1
   ·exact h2 z hz
  ·rintro⟨h1,h2⟩;exact⟨h1 x cr,fun z hz=>h1 z (cp _ hz),h2⟩
theorem bE8(l:List Vr):ckV N l=0↔l.length<=400/\(∀y∈l,vr N y=true)/\SSr l:=by
 unfold ckV;rw[<-bF4];split
 ·constructor
  ·intro h;cases h
  ·rintro⟨h,_⟩;omega
 ·split
  ·rename_i h1 h2;exact⟨fun _=>⟨by omega,h2⟩,fun _=>rfl⟩
  ·rename_i h1 h2;exact⟨fun h=>(by cases h),fun h=>absurd h.2 h2⟩
abbrev Sg:=Int×(List Rd×List Vr)
variable{s:Sg}
abbrev rkn(r:Rd):Int:=r.2.2.2.2.2
abbrev vkn(v:Vr):Int:=v.2.2.2.1
theorem bNl(N m:Nat):bI N (m+1)=bH N (bI N m):=rfl
theorem bMw(N m:Nat):bJ N (m+1)=bK N (bJ N m):=rfl
theorem aUk(N:Nat)(l:List Rd)(d:Int)(p3:List Rd)(p4:List Vr)(hl:l.length<=100000):∀(k m i:Nat),i+k=l.length->k<m->∃x,bI N m l ((l.length:Nat):Int) (i:Int) d p3 p4=some (x,(d,(p3,p4)))/\(x≥0↔∃y∈l.drop i,rkn y≠d)
 |_,0,_,_,h=>absurd h (cj _)
 |0,m+1,i,h1,_=>by
  rw[bNl];unfold bH;rw[aI (decide_eq_false (by omega)),cd (by omega)];exact⟨_,rfl,by simp⟩
 |k+1,m+1,i,h1,h2=>by
  have hlt:i<l.length:=by omega
  rw[bNl];unfold bH;rw[aH (decide_eq_true (by omega)),cD (ν hlt)];unfold oP;rw[aB];dsimp only;obtain⟨x,nxt,hx⟩:=aUk N l d p3 p4 hl k m (i+1) (by omega) (by omega);rw[en hlt];by_cases h:rkn l[i]=d
  ·rw[aI (by rw[bne_eq_false_iff_eq];exact h),aS (by omega) (by omega),show(i:Int)+1=((i+1:Nat):Int) by omega,nxt];refine⟨x,rfl,hx.trans ⟨?_,?_⟩⟩
   ·rintro⟨y,h3,h4⟩;exact⟨y,cp _ h3,h4⟩
   ·rintro⟨y,h3,h4⟩;rcases bo.1 h3 with rfl|h3
    ·exact absurd h h4
    ·exact⟨y,h3,h4⟩
  ·rw[aH (by rw[bne_iff_ne];exact h)];exact⟨_,rfl,⟨fun _=>⟨_,cr,h⟩,fun _=>by omega⟩⟩
theorem aU1(N:Nat)(l:List Vr)(d:Int)(p3:List Rd)(p4:List Vr)(hl:l.length<=100000):∀(k m i:Nat),i+k=l.length->k<m->∃x,bJ N m l ((l.length:Nat):Int) (i:Int) d p3 p4=some (x,(d,(p3,p4)))/\(x≥0↔∃y∈l.drop i,vkn y≠d)
 |_,0,_,_,h=>absurd h (cj _)
 |0,m+1,i,h1,_=>by
  rw[bMw];unfold bK;rw[aI (decide_eq_false (by omega)),cd (by omega)];exact⟨_,rfl,by simp⟩
 |k+1,m+1,i,h1,h2=>by
  have hlt:i<l.length:=by omega
  rw[bMw];unfold bK;rw[aH (decide_eq_true (by omega)),cD (ν hlt)];unfold nI;rw[aB];dsimp only;obtain⟨x,nxt,hx⟩:=aU1 N l d p3 p4 hl k m (i+1) (by omega) (by omega);rw[en hlt];by_cases h:vkn l[i]=d
  ·rw[aI (by rw[bne_eq_false_iff_eq];exact h),aS (by omega) (by omega),show(i:Int)+1=((i+1:Nat):Int) by omega,nxt];refine⟨x,rfl,hx.trans ⟨?_,?_⟩⟩
   ·rintro⟨y,h3,h4⟩;exact⟨y,cp _ h3,h4⟩
   ·rintro⟨y,h3,h4⟩;rcases bo.1 h3 with rfl|h3
    ·exact absurd h h4
    ·exact⟨y,h3,h4⟩
  ·rw[aH (by rw[bne_iff_ne];exact h)];exact⟨_,rfl,⟨fun _=>⟨_,cr,h⟩,fun _=>by omega⟩⟩
theorem bRz{d:Int}(hl:l.length<=100000)(hN:l.length<N):bE N l d p3 p4=some (!decide (∀y∈l,rkn y=d),(d,(p3,p4))):=by
 unfold bE cI;obtain⟨x,h,hx⟩:=aUk N l d p3 p4 hl l.length N 0 (by omega) hN;rw[show(((0:Nat):Int))=0 from rfl]at h;rw[h,aB];dsimp only;rw[cc]at hx;have:decide (x≥0)=!decide (∀y∈l,rkn y=d):=by rw[e7,decide_eq_true_eq,hx];simp
 rw[this]
theorem bSk{l:List Vr}{d:Int}(hl:l.length<=100000)(hN:l.length<N):bF N l d p3 p4=some (!decide (∀y∈l,vkn y=d),(d,(p3,p4))):=by
 unfold bF cJ;obtain⟨x,h,hx⟩:=aU1 N l d p3 p4 hl l.length N 0 (by omega) hN;rw[show(((0:Nat):Int))=0 from rfl]at h;rw[h,aB];dsimp only;rw[cc]at hx;have:decide (x≥0)=!decide (∀y∈l,vkn y=d):=by rw[e7,decide_eq_true_eq,hx];simp
 rw[this]
def ckK(N:Nat)(l:List Rd)(vs:List Vr):Int:=if ckR l≠0 then ckR l else ckV N vs
theorem bHf(hN:17179869184<N)(hs:smV vs):eN N l vs=some (ckK N l vs):=by
 unfold eN ckK;rw[bOe (by omega),aB,bOp hN hs,aB];by_cases h:ckR l=0
 ·rw[aI (by rw[bne_eq_false_iff_eq];exact h),if_neg (by omega)]
 ·rw[aH (by rw[bne_iff_ne];exact h),if_pos h]
theorem bHb:ckK N l vs=0↔ckR l=0/\ckV N vs=0:=by
 unfold ckK;split
 ·omega
 ·omega
def ckS(N:Nat)(s:Sg):Int:=if wi s.1 0 14609=true then(if ckK N s.2.1 s.2.2≠0 then ckK N s.2.1 s.2.2 else if(∀y∈s.2.1,rkn y=s.1)/\∀y∈s.2.2,vkn y=s.1 then 0 else 1)else 3
theorem bT4(N:Nat)(n:Int):lC N n=some (wi n 0 14609):=by unfold lC;rw[aIa,aB];rfl
theorem aQo(hN:17179869184<N)(hs:smV s.2.2):aT N s=some (ckS N s):=by
 unfold aT ckS;rw[bT4,aB];cases hd:wi s.1 0 14609 with
 |false=>rfl
 |true=>
  rw[dq,bC,bHf hN hs,aB,if_pos rfl];by_cases h:ckK N s.2.1 s.2.2=0
  ·rw[aI (by rw[bne_eq_false_iff_eq];exact h),if_neg (by omega)];obtain⟨h1,h2⟩:=bHb.1 h;have l1:=((bFb _).1 h1).1;have l2:=((bE8 _).1 h2).1;rw[bRz (by omega) (by omega),aB];dsimp only;by_cases h3:∀y∈s.2.1,rkn y=s.1
   ·rw[decide_eq_true h3,dq,bC,bSk (by omega) (by omega),aB,aB];dsimp only;by_cases h4:∀y∈s.2.2,vkn y=s.1
    ·rw[decide_eq_true h4,dq,bC,if_pos ⟨h3,h4⟩]
    ·rw[decide_eq_false h4,k6,bS,if_neg fun h=>h4 h.2]
   ·rw[decide_eq_false h3,k6,bS,aB,bS,if_neg fun h=>h3 h.1]
  ·rw[aH (by rw[bne_iff_ne];exact h),if_pos h]
structure SOk (N:Nat) (s:Sg):Prop where
 day:wi s.1 0 14609=true
 len:s.2.1.length<=4000
 rr:∀y∈s.2.1,rr y=true
 srt:SRr s.2.1
 vlen:s.2.2.length<=400
 vr:∀y∈s.2.2,vr N y=true
 vsrt:SSr s.2.2
 kn:∀y∈s.2.1,rkn y=s.1
 vkn:∀y∈s.2.2,vkn y=s.1
theorem aPs:ckS N s=0↔SOk N s:=by
 unfold ckS;constructor
 ·intro h;split at h
  ·rename_i h1;split at h
   ·omega
   ·rename_i h2;split at h
    ·rename_i h3;obtain⟨h4,h5⟩:=bHb.1 (show ckK N s.2.1 s.2.2=0 by omega);obtain⟨a1,a2,a3⟩:=(bFb _).1 h4;obtain⟨b1,b2,b3⟩:=(bE8 _).1 h5;exact⟨h1,a1,a2,a3,b1,b2,b3,h3.1,h3.2⟩
    ·omega
  ·omega
 ·intro h;have hk:ckK N s.2.1 s.2.2=0:=bHb.2 ⟨(bFb _).2 ⟨h.len,h.rr,h.srt⟩,(bE8 _).2 ⟨h.vlen,h.vr,h.vsrt⟩⟩;rw[if_pos h.day,if_neg (by omega),if_pos ⟨h.kn,h.vkn⟩]
theorem bMp(N m:Nat):iR N (m+1)=iG N (iR N m):=rfl
theorem bMm(N m:Nat):iP N (m+1)=iH N (iP N m):=rfl
theorem aVb{N:Nat}(hN:5000<=N)(l:List Vr)(h:∀v∈l,okV v)(hl:l.length<=100000):∀(k m i:Nat) (acc:List Str),i+k=l.length->k<m->acc.length<=100000+i->iR N m l ((l.length:Nat):Int) (i:Int) acc=some (acc++(l.drop i).map aEg)
 |_,0,_,_,_,h,_=>absurd h (cj _)
 |0,m+1,i,acc,h1,_,_=>by
  rw[bMp];unfold iG;rw[aI (decide_eq_false (by omega)),aJ,cd (by omega),List.map_nil,bb]
 |k+1,m+1,i,acc,h1,h2,h3=>by
  have hlt:i<l.length:=by omega
  have hv:=h _ (im hlt);have hq:=hv.2.1;have hv:=aX8 (N:=N) (by omega) hv (by omega);rw[bMp];unfold iG;rw[aH (decide_eq_true (by omega)),cD (ν hlt)];show bd? (gL N l[i]) _=_;rw[hv,aB,aJ,aC (by simp only[bf,cf];omega),aS (by omega) (by omega),aJ,show(i:Int)+1=((i+1:Nat):Int) by omega,aVb hN l h hl k m (i+1) _ (by omega) (by omega) (by simp;omega),en hlt,cu,υ];rfl
theorem aVt{N:Nat}(hN:200000<=N)(l:List Rd)(d:Int)(p7:List Rd)(vs:List Vr)(h:∀r∈l,okR r)(hv:∀v∈vs,okV v)(hl:l.length<=100000)(hvl:vs.length<=100000):∀(k m i:Nat) (acc:List Str),i+k=l.length->k<m->acc.length<=i->iP N m l ((l.length:Nat):Int) (i:Int) d p7 vs acc=some (acc++((l.drop i).map aN4++vs.map aEg))
 |_,0,_,_,_,h,_=>absurd h (cj _)
 |0,m+1,i,acc,h1,_,h3=>by
  rw[bMm];unfold iH;have:=aVb (N:=N) (by omega) vs hv hvl vs.length N 0 acc (by omega) (by omega) (by omega);rw[show(((0:Nat):Int))=0 from rfl,cc]at this;rw[aI (decide_eq_false (by omega)),aJ,this,cd (l:=l) (by omega)];rfl
 |k+1,m+1,i,acc,h1,h2,h3=>by
  have hlt:i<l.length:=by omega
  have hr:=aXm (N:=N) (by omega) (h _ (im hlt));rw[bMm];unfold iH;rw[aH (decide_eq_true (by omega)),cD (ν hlt)];show bd? (gA N l[i]) _=_;rw[hr,aB,aJ,aC (by simp only[bf,cf];omega),aS (by omega) (by omega),aJ,show(i:Int)+1=((i+1:Nat):Int) by omega,aVt hN l d p7 vs h hv hl hvl k m (i+1) _ (by omega) (by omega) (by simp;omega),en hlt,cu,υ];rfl
def okS(s:Sg):Prop:=(∀r∈s.2.1,okR r)/\∀v∈s.2.2,okV v
def itm(s:Sg):List Str:=s.2.1.map aN4++s.2.2.map aEg
theorem bIw(hN:200000<=N)(h:okS s)(h1:s.2.1.length<=100000)(h2:s.2.2.length<=100000):eP N s=some (itm s):=by unfold eP;have:=aVt hN s.2.1 s.1 s.2.1 s.2.2 h.1 h.2 h1 h2 s.2.1.length N 0 [] (by omega) (by omega) (τ _);rw[show(((0:Nat):Int))=0 from rfl]at this;rw[this,cz,cc];rfl
theorem bLv(o x:Rd):(nB [1,1,1,1,1] (o.1==x.1) (nB [1,1,1,1] (o.2.1==x.2.1) (nB [1,1,1] (o.2.2.1==x.2.2.1) (nB [1,1] (o.2.2.2.1==x.2.2.2.1) (nB [1] (o.2.2.2.2.1==x.2.2.2.2.1) (nB ([]:List Nat) (o.2.2.2.2.2==x.2.2.2.2.2) true))))))=decide (o=x):=by obtain⟨a,b,c,d,e,f⟩:=o;obtain⟨a',b',c',d',e',f'⟩:=x;rw[e7,decide_eq_true_eq];simp[nB]
theorem bS9(N:Nat)(l:List Rd)(k:Int):∃b,uN N l k=some b/\(b=true->(l.length:Int)<=k\/l.length>4000):=by
 unfold uN;by_cases h1:(l.length:Int)<=k
 ·exact⟨true,by rw[aH (decide_eq_true h1),aB],fun _=>.inl h1⟩
 ·by_cases h2:l.length>4000
  ·exact⟨_,by rw[aI (decide_eq_false h1),aH (decide_eq_true (by omega)),aB],fun _=>.inr h2⟩
  ·exact⟨false,by rw[aI (decide_eq_false h1),aI (decide_eq_false (by omega)),aB],fun h=>by cases h⟩
def bDv(l:List Pt):Prop:=l.length<=20/\∀p∈l,p.2.2.1.length<=12/\p.2.2.2.length<=12
theorem bTb(m:Nat):fX (m+1)=fY (fX m):=rfl
theorem bA3(l:List Pt)(hl:l.length<=1000):∀(k m i:Nat),i+k=l.length->k<m->∃b,fX m (i:Int) l=some b/\(b=true->∀p∈l.drop i,p.2.2.1.length<=12/\p.2.2.2.length<=12)
 |_,0,_,_,h=>absurd h (cj _)
 |0,m+1,i,h1,_=>by
  rw[bTb];unfold fY;rw[aI (decide_eq_false (by omega)),cd (by omega)];exact⟨true,rfl,fun _ p hp=>(fv hp).elim⟩
 |k+1,m+1,i,h1,h2=>by
  have hlt:i<l.length:=by omega
  obtain⟨b,nx,hb⟩:=bA3 l hl k m (i+1) (by omega) (by omega);rw[bTb];unfold fY;rw[aH (decide_eq_true (by omega)),cD (ν hlt),cD (ν hlt),en hlt];by_cases h3:l[i].2.2.1.length>12
  ·rw[aH (decide_eq_true (by omega)),aB];exact⟨false,rfl,fun h=>by cases h⟩
  ·rw[aI (decide_eq_false (by omega)),aB];dsimp only;by_cases h4:l[i].2.2.2.length>12
   ·rw[aH (decide_eq_true (by omega))];exact⟨false,rfl,fun h=>by cases h⟩
   ·rw[aI (decide_eq_false (by omega)),aS (by omega) (by omega),show(i:Int)+1=((i+1:Nat):Int) by omega,nx];refine⟨b,rfl,fun h p hp=>?_⟩;rcases bo.1 hp with rfl|hp
    ·exact⟨by omega,by omega⟩
    ·exact hb h p hp
theorem bC2(hN:1000<=N)(l:List Pt):∃b,iT N l=some b/\(b=true->bDv l):=by
 unfold iT;by_cases h:l.length>20
 ·exact⟨false,by rw[aH (decide_eq_true (by omega))],fun h=>by cases h⟩
 ·obtain⟨b,nx,hb⟩:=bA3 l (by omega) l.length N 0 (by omega) (by omega);rw[aI (decide_eq_false (by omega))];exact⟨b,nx,fun h'=>⟨by omega,by have:=hb h';rwa[cc]at this⟩⟩
theorem bSb(N m:Nat):kY N (m+1)=pR N (kY N m):=rfl
theorem aZ6{N:Nat}(hN:1000<=N)(l:List Vr)(hl:l.length<=1000):∀(k m i:Nat),i+k=l.length->k<m->∃b,kY N m l (i:Int)=some b/\(b=true->∀v∈l.drop i,bDv (vp v))
 |_,0,_,_,h=>absurd h (cj _)
 |0,m+1,i,h1,_=>by
  rw[bSb];unfold pR;rw[aI (decide_eq_false (by omega)),cd (by omega)];exact⟨true,rfl,fun _ p hp=>(fv hp).elim⟩
 |k+1,m+1,i,h1,h2=>by
  have hlt:i<l.length:=by omega
  obtain⟨b,nx,hb⟩:=aZ6 hN l hl k m (i+1) (by omega) (by omega);obtain⟨c,hc,hc2⟩:=bC2 hN (vp l[i]);rw[bSb];unfold pR;rw[aH (decide_eq_true (by omega)),cD (ν hlt),show l[i].2.2.2.2.2.2.2=vp l[i]from rfl,hc,aB,en hlt];cases c with
  |false=>exact⟨false,rfl,fun h=>by cases h⟩
  |true=>
   rw[dq,bC,aS (by omega) (by omega),show(i:Int)+1=((i+1:Nat):Int) by omega,nx];refine⟨b,rfl,fun h p hp=>?_⟩;rcases bo.1 hp with rfl|hp
   ·exact hc2 rfl
   ·exact hb h p hp
theorem bRp(hN:1000<=N)(l:List Vr)(k:Int):∃b,uX N l k=some b/\(b=true->((l.length:Int)<=k\/l.length>400)/\l.length<=410/\∀v∈l,bDv (vp v)):=by
 unfold uX;have fin:((l.length:Int)<=k\/l.length>400)->∃b,(bd? (some (l,decide (((l.length:Nat):Int)>410))) fun w3=>if? (w3.2) (some (false)) (kY N N w3.1 0))=some b/\(b=true->((l.length:Int)<=k\/l.length>400)/\l.length<=410/\∀v∈l,bDv (vp v)):=fun h0=>by
  rw[aB];dsimp only;by_cases h:l.length>410
  ·rw[aH (decide_eq_true (by omega))];exact⟨false,rfl,fun h=>by cases h⟩
  ·obtain⟨b,nx,hb⟩:=aZ6 hN l (by omega) l.length N 0 (by omega) (by omega);rw[aI (decide_eq_false (by omega))];exact⟨b,nx,fun h'=>⟨h0,by omega,by have:=hb h';rwa[cc]at this⟩⟩
 by_cases h1:(l.length:Int)>k
 ·rw[aH (decide_eq_true h1)];by_cases h2:l.length<=400
  ·rw[aH (decide_eq_true (by omega)),aB];exact⟨false,rfl,fun h=>by cases h⟩
  ·rw[aI (decide_eq_false (by omega))];exact fin (.inr (by omega))
 ·rw[aI (decide_eq_false h1)];exact fin (.inl (by omega))
structure Few (s:Sg):Prop where
 rd:s.2.1.length<=30\/s.2.1.length>4000
 vs:s.2.2.length<=30\/s.2.2.length>400
 vl:s.2.2.length<=410
 pt:∀v∈s.2.2,bDv (vp v)
theorem bSa(hN:1000<=N)(s:Sg):∃b,qI N s 30=some b/\(b=true->Few s):=by unfold qI;obtain⟨b,hb,hb2⟩:=bS9 N s.2.1 30;obtain⟨c,hc,hc2⟩:=bRp hN s.2.2 30;rw[hb,aB,hc,aB,aIa,aB];refine⟨_,rfl,fun h=>?_⟩;rw[μ]at h;obtain⟨h1,h2,h3⟩:=hc2 h.2;have h4:=hb2 h.1;exact⟨by omega,by omega,h2,h3⟩
theorem aY6(hN:1000<=N)(s:Sg):∃b,eV N s=some b/\(b=true->Few s):=by unfold eV;obtain⟨b,hb,h⟩:=bSa hN s;have hb:qI N (s.1,(s.2.1,s.2.2)) 30=some b:=hb;rw[hb,aB];exact⟨b,rfl,h⟩
theorem aMt{α:Type}[DecidableEq α]{l m:List α}{i:Nat}(h1:i<l.length)(h2:i<m.length):decide (l.drop i=m.drop i)=(decide (l[i]=m[i])&&decide (l.drop (i+1)=m.drop (i+1))):=by rw[e7,μ,decide_eq_true_eq,decide_eq_true_eq,decide_eq_true_eq,en h1,en h2,List.cons_eq_cons]
theorem bMy(m:Nat):nX (m+1)=oH (nX m):=rfl
theorem aTy(a b:List Rd)(hl:a.length=b.length)(hb:a.length<=1000000):∀(k m i:Nat),i+k=a.length->k<m->nX m a b (i:Int)=some (decide (a.drop i=b.drop i))
 |_,0,_,_,h=>absurd h (cj _)
 |0,m+1,i,h1,_=>by
  rw[bMy];unfold oH;rw[aI (decide_eq_false (by omega)),cd (by omega),cd (by omega)];rfl
 |k+1,m+1,i,h1,h2=>by
  have ha:i<a.length:=by omega
  have hb':i<b.length:=by omega
  have nx:=aTy a b hl hb k m (i+1) (by omega) (by omega);rw[bMy];unfold oH;rw[aH (decide_eq_true (by omega)),cD (ν ha),cD (ν hb'),bLv,aMt ha hb'];cases decide (a[i]=b[i])with
  |false=>rfl
  |true=>rw[dq,bC,aS (by omega) (by omega),show(i:Int)+1=((i+1:Nat):Int) by omega,nx,m8]
theorem bO7{a b:List Rd}(hN:a.length<N)(hb:a.length<=1000000):nY N a b=some (decide (a=b)):=by
 unfold nY;by_cases h:a.length=b.length
 ·have:=aTy a b h hb a.length N 0 (by omega) hN;rw[show(((0:Nat):Int))=0 from rfl,cc,cc]at this;rw[aI (by rw[bne_eq_false_iff_eq];omega),this]
 ·rw[aH (by rw[bne_iff_ne];omega),decide_eq_false fun e=>h (by rw[e])]
theorem aJ3(o x:Pt):(oU [(Sh.s 0),(Sh.s 2),(Sh.s 2)] (o.1==x.1) (oU [(Sh.s 2),(Sh.s 2)] (o.2.1==x.2.1) (oU [(Sh.s 2)] (o.2.2.1==x.2.2.1) (oU ([]:(List Sh)) (o.2.2.2==x.2.2.2) true))))=decide (o=x):=by obtain⟨a,b,c,d⟩:=o;obtain⟨a',b',c',d'⟩:=x;rw[e7,decide_eq_true_eq];simp[oU]
theorem bRd(m:Nat):fV (m+1)=fS (fV m):=rfl
theorem bAs(a b:List Pt)(hl:a.length=b.length)(hb:a.length<=1000000):∀(k m i:Nat),i+k=a.length->k<m->fV m (i:Int) a b=some (decide (a.drop i=b.drop i))
 |_,0,_,_,h=>absurd h (cj _)
 |0,m+1,i,h1,_=>by
  rw[bRd];unfold fS;rw[aI (decide_eq_false (by omega)),cd (by omega),cd (by omega)];rfl
 |k+1,m+1,i,h1,h2=>by
  have ha:i<a.length:=by omega
  have hb':i<b.length:=by omega
  have nx:=bAs a b hl hb k m (i+1) (by omega) (by omega);rw[bRd];unfold fS;rw[aH (decide_eq_true (by omega)),cD (ν ha),cD (ν hb'),aJ3,aMt ha hb'];cases decide (a[i]=b[i])with
  |false=>rfl
  |true=>rw[dq,bC,aS (by omega) (by omega),show(i:Int)+1=((i+1:Nat):Int) by omega,nx,m8]
theorem bSe{a b:List Pt}(hN:a.length<N)(hb:a.length<=1000000):iU N a b=some (decide (a=b)):=by
 unfold iU;by_cases h:a.length=b.length
 ·have:=bAs a b h hb a.length N 0 (by omega) hN;rw[show(((0:Nat):Int))=0 from rfl,cc,cc]at this;rw[aI (by rw[bne_eq_false_iff_eq];omega),this]
 ·rw[aH (by rw[bne_iff_ne];omega),decide_eq_false fun e=>h (by rw[e])]
theorem bRg{a b:Vr}(hN:(vp a).length<N)(hb:(vp a).length<=1000000):oF N a b=some (decide (a=b)):=by
 unfold oF;rw[show a.2.2.2.2.2.2.2=vp a from rfl,show b.2.2.2.2.2.2.2=vp b from rfl,bSe hN hb,aB];simp only[aIa,aB];refine congrArg some ?_;obtain⟨a1,a2,a3,a4,a5,a6,a7,a8⟩:=a;obtain⟨b1,b2,b3,b4,b5,b6,b7,b8⟩:=b;rw[e7,decide_eq_true_eq];simp only[μ,decide_eq_true_eq,beq_iff_eq,Prod.mk.injEq];constructor
 ·rintro⟨h8,h1,h2,h3,h4,h5,h6,h7⟩;exact⟨h1,h2,h3,h4,h5,h6,h7,h8⟩
 ·rintro⟨h1,h2,h3,h4,h5,h6,h7,h8⟩;exact⟨h8,h1,h2,h3,h4,h5,h6,h7⟩
theorem bTc(N m:Nat):gQ N (m+1)=gP N (gQ N m):=rfl
theorem bA8{N:Nat}(a b:List Vr)(hp:∀v∈a,(vp v).length<N/\(vp v).length<=1000000)(hl:a.length=b.length)(hb:a.length<=1000000):∀(k m i:Nat),i+k=a.length->k<m->gQ N m a b (i:Int)=some (decide (a.drop i=b.drop i))
 |_,0,_,_,h=>absurd h (cj _)
 |0,m+1,i,h1,_=>by
  rw[bTc];unfold gP;rw[aI (decide_eq_false (by omega)),cd (by omega),cd (by omega)];rfl
 |k+1,m+1,i,h1,h2=>by
  have ha:i<a.length:=by omega
  have hb':i<b.length:=by omega
  have nx:=bA8 a b hp hl hb k m (i+1) (by omega) (by omega);have hq:=hp _ (im ha);rw[bTc];unfold gP;rw[aH (decide_eq_true (by omega)),cD (ν ha),cD (ν hb')];show bd? (oF N a[i] b[i]) _=_;rw[bRg hq.1 hq.2,aB,aMt ha hb'];cases decide (a[i]=b[i])with
  |false=>rfl
  |true=>rw[dq,bC,aS (by omega) (by omega),show(i:Int)+1=((i+1:Nat):Int) by omega,nx,m8]
theorem aU9{a b:List Vr}(hp:∀v∈a,(vp v).length<N/\(vp v).length<=1000000)(hN:a.length<N)(hb:a.length<=1000000):gJ N a b=some (decide (a=b)):=by
 unfold gJ;by_cases h:a.length=b.length
 ·have:=bA8 a b hp h hb a.length N 0 (by omega) hN;rw[show(((0:Nat):Int))=0 from rfl,cc,cc]at this;rw[aI (by rw[bne_eq_false_iff_eq];omega),this]
 ·rw[aH (by rw[bne_iff_ne];omega),decide_eq_false fun e=>h (by rw[e])]
theorem bOx{a b:Sg}(h1:a.2.1.length<N)(h2:a.2.1.length<=1000000)(hp:∀v∈a.2.2,(vp v).length<N/\(vp v).length<=1000000)(h3:a.2.2.length<N)(h4:a.2.2.length<=1000000):dK N a b=some (decide (a=b)):=by
 unfold dK;rw[bO7 h1 h2,aB,aU9 hp h3 h4,aB];simp only[aIa,aB];refine congrArg some ?_;obtain⟨a1,a2,a3⟩:=a;obtain⟨b1,b2,b3⟩:=b;rw[e7,decide_eq_true_eq];simp only[μ,decide_eq_true_eq,beq_iff_eq,Prod.mk.injEq];constructor
 ·rintro⟨h1,h2,h3⟩;exact⟨h3,h1,h2⟩
 ·rintro⟨h1,h2,h3⟩;exact⟨h2,h3,h1⟩
def bCm(s:Sg):Prop:=(∀r∈s.2.1,okR r)/\∀v∈s.2.2,(∀x∈vl v,I64 x)/\∀p∈vp v,I64 p.1
end Go.Proofs.Tryz
set_option maxRecDepth 8000
set_option synthInstance.maxSize 100000
set_option synthInstance.maxHeartbeats 400000
namespace Go.Proofs.Tryz
open Go.Eng Go.RowKit Go.Lib
variable{N:Nat}{s:Str}{a:Sg}{l:List Int}{β α:Type}{n:Int}{r:List Rd}{v:List Vr}
theorem aBf{s a b:List α}(h:s=a++b):s.drop a.length=b:=by rw[h];exact qF a b
theorem aZh:∀(s:Str) (k z:Nat),k<=9->z<128^k->(giN k z s).2.2=0->∃y r,s=uvarint y++r/\(0<y\/k=0)/\z+y*128^k<18446744073709551616/\giN k z s=(unz (z+y*128^k),((k+(uvarint y).length:Nat):Int),0)
 |[],k,z,_,_,h=>by cases h
 |c::s,k,z,hk,hz,h=>by
  rw[giN]at h|-;have hcl:=c.toNat_lt;by_cases hb:(k=9/\1<c.toNat)\/(0<k/\c.toNat=0)
  ·rw[if_pos hb]at h;cases h
  ·rw[if_neg hb]at h|-;obtain⟨_,h2,h3⟩:=aZr z k c.toNat hz hk (by omega) (by omega);by_cases hh:c.toNat<128
   ·rw[if_pos hh];rw[ji hh]at h2|-;have e:c.toNat.toUInt8=c:=UInt8.ofNat_toNat;refine⟨c.toNat,s,?_,by omega,h2,?_⟩
    ·rw[uvarint_small hh,e];rfl
    ·rw[uvarint_small hh];rfl
   ·rw[if_neg hh]at h|-;obtain⟨y,r,g1,g2,g3,g4⟩:=aZh s (k+1) _ (by omega) (h3 (by omega)) h;have hy:0<y:=by omega
    have e:z+c.toNat%128*128^k+y*128^(k+1)=z+(c.toNat%128+128*y)*128^k:=by
     have h1:y*128^(k+1)=(128*y)*128^k:=by rw[Nat.pow_succ,j5 (128^k) 128,<-Nat.mul_assoc,j5 y 128]
     rw[h1,fw,<-Nat.add_mul]
    have ec:(((c.toNat%128+128*y)%128+128).toUInt8)=c:=by
     have:(c.toNat%128+128*y)%128+128=c.toNat:=by omega
     rw[this];exact UInt8.ofNat_toNat
    have hu:uvarint (c.toNat%128+128*y)=c::uvarint y:=by rw[uvarint_big (x:=c.toNat%128+128*y) (by omega),ec,show(c.toNat%128+128*y)/128=y by omega]
    refine⟨c.toNat%128+128*y,r,?_,.inl (by omega),by rw[<-e];exact g3,?_⟩
    ·rw[hu,iu,<-g1]
    ·rw[g4,e,hu,bf,show k+1+(uvarint y).length=k+((uvarint y).length+1) by omega]
theorem bJv(z:Nat):zigzag (unz z)=z:=by unfold unz zigzag;split<;>split<;>omega
theorem aYc(h:(gi s).2.2=0):∃r,s=uvI (gi s).1++r/\(gi s).2.1=((uvI (gi s).1).length:Int):=by unfold gi at*;obtain⟨y,r,h1,_,_,h4⟩:=aZh s 0 0 (by omega) (by decide) h;rw[h4];unfold uvI;dsimp only;rw[bg,Nat.pow_zero,Nat.mul_one,bJv,bg];exact⟨r,h1,rfl⟩
theorem aL4(h:(cR s).2.2=0):∃r,s=uvI (cR s).1++r/\(cR s).2.1=((uvI (cR s).1).length:Int):=by
 unfold cR at*;by_cases h1:(gi s).2.2≠0
 ·rw[if_pos h1]at h;exact absurd h h1
 ·rw[if_neg h1]at h|-;by_cases h2:(gi s).1<0
  ·rw[if_pos h2]at h;cases h
  ·rw[if_neg h2]at h|-;by_cases h3:(gi s).1>(s.length:Int)-(gi s).2.1
   ·rw[if_pos h3]at h;cases h
   ·rw[if_neg h3];exact aYc (by omega)
theorem aO7:∀(n:Nat) (r:Str) (a:Nat) (acc:List Int),(pB n r (a:Int) acc).2.2=0->∃l t,(pB n r (a:Int) acc).1=acc++l/\l.length=n/\r=l.flatMap uvI++t/\(pB n r (a:Int) acc).2.1=((a+(l.flatMap uvI).length:Nat):Int)
 |0,r,a,acc,h=>⟨[],r,by rw[bb];rfl,rfl,rfl,rfl⟩
 |n+1,r,a,acc,h=>by
  rw[pB]at h|-;by_cases he:(gi r).2.2≠0
  ·rw[if_pos he]at h;exact absurd h he
  ·rw[if_neg he]at h|-;obtain⟨q,h1,h2⟩:=aYc (show(gi r).2.2=0 by omega);have hd:r.drop (gi r).2.1.toNat=q:=by rw[h2,ξ];exact aBf h1
   rw[hd,h2,show((a:Int)+((uvI (gi r).1).length:Int))=((a+(uvI (gi r).1).length:Nat):Int) by omega]at h|-;obtain⟨l,t,g1,g2,g3,g4⟩:=aO7 n q _ _ h;refine⟨(gi r).1::l,t,by rw[g1,υ];rfl,by rw[bf,g2],?_,?_⟩
   ·rw[eo,υ,<-g3];exact h1
   ·rw[g4,eo,ι,fw]
theorem bBz(h:(dH s).2.2=0):∃t,s=vP (dH s).1++t/\(dH s).2.1=((vP (dH s).1).length:Int):=by
 unfold dH at*;by_cases h1:(cR s).2.2≠0
 ·rw[if_pos h1]at h;exact absurd h h1
 ·rw[if_neg h1]at h|-;obtain⟨r,g1,g2⟩:=aL4 (show(cR s).2.2=0 by omega);rcases rY s with⟨_,n,u,k1,k2,k3⟩|⟨_,_,k⟩
  ·have e1:(cR s).1=(n:Int):=by rw[k1]
   have hd:s.drop (cR s).2.1.toNat=r:=by rw[g2,ξ];exact aBf g1
   rw[hd,g2,e1,ξ]at h|-;obtain⟨l,t,j1,j2,j3,j4⟩:=aO7 n r _ _ h;rw[cz]at j1;refine⟨t,?_,?_⟩
   ·rw[j1];unfold vP;rw[j2,<-e1,υ,<-j3];exact g1
   ·rw[j4,j1];unfold vP;rw[j2,ι]
  ·omega
theorem aX6(h:(cL s).2.2=0):∃r,s=iV (cL s).1++r/\(cL s).2.1=((iV (cL s).1).length:Int):=by
 unfold cL at*;by_cases h1:(cR s).2.2≠0
 ·rw[if_pos h1]at h;exact absurd h h1
 ·rw[if_neg h1];obtain⟨r,g1,g2⟩:=aL4 (show(cR s).2.2=0 by omega);rcases rY s with⟨_,n,u,k1,k2,k3⟩|⟨_,_,k⟩
  ·have e1:(cR s).1=(n:Int):=by rw[k1]
   have hd:s.drop (cR s).2.1.toNat=r:=by rw[g2,ξ];exact aBf g1
   have hl:s.length=(uvI (n:Int)).length+r.length:=by have:=congrArg List.length g1;rwa[ι,e1]at this
   have hu:u=(uvI (n:Int)).length:=by
    have:(cR s).2.1=(u:Int):=by rw[k1]
    rw[e1]at g2;omega
   rw[hd,e1,ξ];have ln:(r.take n).length=n:=by rw[bn];omega
   refine⟨r.drop n,?_,?_⟩
   ·dsimp only;unfold iV;rw[ln,<-e1,υ,gv];exact g1
   ·dsimp only;unfold iV;rw[ln,g2,e1,ι,ln];omega
  ·omega
theorem aOr:∀(n:Nat) (r:Str) (a:Nat) (acc:List Str),(oY n r (a:Int) acc).2.2=0->∃l t,(oY n r (a:Int) acc).1=acc++l/\l.length=n/\r=l.flatMap iV++t/\(oY n r (a:Int) acc).2.1=((a+(l.flatMap iV).length:Nat):Int)
 |0,r,a,acc,h=>⟨[],r,by rw[bb];rfl,rfl,rfl,rfl⟩
 |n+1,r,a,acc,h=>by
  rw[oY]at h|-;by_cases he:(cL r).2.2≠0
  ·rw[if_pos he]at h;exact absurd h he
  ·rw[if_neg he]at h|-;obtain⟨q,h1,h2⟩:=aX6 (show(cL r).2.2=0 by omega);have hd:r.drop (cL r).2.1.toNat=q:=by rw[h2,ξ];exact aBf h1
   rw[hd,h2,show((a:Int)+((iV (cL r).1).length:Int))=((a+(iV (cL r).1).length:Nat):Int) by omega]at h|-;obtain⟨l,t,g1,g2,g3,g4⟩:=aOr n q _ _ h;refine⟨(cL r).1::l,t,by rw[g1,υ];rfl,by rw[bf,g2],?_,?_⟩
   ·rw[eo,υ,<-g3];exact h1
   ·rw[g4,eo,ι,fw]
theorem bCd(h:(eM s).2.2=0):∃t,s=nL (eM s).1++t/\(eM s).2.1=((nL (eM s).1).length:Int):=by
 unfold eM at*;by_cases h1:(cR s).2.2≠0
 ·rw[if_pos h1]at h;exact absurd h h1
 ·rw[if_neg h1]at h|-;obtain⟨r,g1,g2⟩:=aL4 (show(cR s).2.2=0 by omega);rcases rY s with⟨_,n,u,k1,k2,k3⟩|⟨_,_,k⟩
  ·have e1:(cR s).1=(n:Int):=by rw[k1]
   have hd:s.drop (cR s).2.1.toNat=r:=by rw[g2,ξ];exact aBf g1
   rw[hd,g2,e1,ξ]at h|-;obtain⟨l,t,j1,j2,j3,j4⟩:=aOr n r _ _ h;rw[cz]at j1;refine⟨t,?_,?_⟩
   ·rw[j1];unfold nL;rw[j2,<-e1,υ,<-j3];exact g1
   ·rw[j4,j1];unfold nL;rw[j2,ι]
  ·omega
theorem bEy{k:Int}{c:Nat}{more:Bool}{v:List Int×List Str}(h:hd s k c more=some v):v.1.length=c/\v.1.getD 0 0=k/\s=vP v.1++(if more then nL v.2 else[]):=by
 unfold hd at h;split at h
 ·rename_i hh;obtain⟨e,hl,hk⟩:=hh;obtain⟨t,g1,g2⟩:=bBz e;have hdr:s.drop (dH s).2.1.toNat=t:=by rw[g2,ξ];exact aBf g1
  have hsl:s.length=(vP (dH s).1).length+t.length:=by have:=congrArg List.length g1;rwa[ι]at this
  split at h
  ·rename_i hm;split at h
   ·rename_i hh;cases h;rw[hdr]at hh|-;obtain⟨t',j1,j2⟩:=bCd hh.1;have:t'=[]:=by apply jn;have:=congrArg List.length j1;rw[ι]at this;have:=hh.2;omega
    subst this;rw[bb]at j1;refine⟨hl,hk,?_⟩;rw[hm,if_pos rfl];dsimp only;rw[<-j1];exact g1
   ·cases h
  ·rename_i hm;split at h
   ·rename_i hh;cases h;have:t=[]:=by apply jn;omega
    subst this;refine⟨hl,hk,?_⟩;rw[if_neg hm];exact g1
   ·cases h
 ·cases h
theorem bRc(h:l.length=7):l=[l.getD 0 0,l.getD 1 0,l.getD 2 0,l.getD 3 0,l.getD 4 0,l.getD 5 0,l.getD 6 0]:=by
 match l,h with
 |[a,b,c,d,e,f,g],_=>rfl
theorem bS3(h:l.length=8):l=[l.getD 0 0,l.getD 1 0,l.getD 2 0,l.getD 3 0,l.getD 4 0,l.getD 5 0,l.getD 6 0,l.getD 7 0]:=by
 match l,h with
 |[a,b,c,d,e,f,g,i],_=>rfl
theorem aZ8(h:(grd s).2=0):s=aN4 (grd s).1/\okR (grd s).1:=by
 unfold grd at*;cases hh:hd s 1 7 false with
 |none=>rw[hh]at h;cases h
 |some v=>
  obtain⟨h1,h2,h3⟩:=bEy hh;have hI:=(aY9 hh).2.1;dsimp only;have e:v.1=rl ((v.1.getD 1 0,(v.1.getD 2 0,(v.1.getD 3 0,(v.1.getD 4 0,(v.1.getD 5 0,v.1.getD 6 0)))))):=by have:=bRc h1;rw[h2]at this;exact this
  refine⟨?_,?_⟩
  ·unfold aN4;rw[<-e,h3];simp
  ·unfold okR;rw[<-e];exact hI
theorem aZ9(h:one s=some n):s=uvI n/\I64 n:=by
 unfold one at h;split at h
 ·rename_i hh;cases h;obtain⟨r,g1,g2⟩:=aYc hh.1;have:r=[]:=by apply jn;have:=congrArg List.length g1;rw[ι]at this;have:=hh.2;omega
  subst this;rw[bb]at g1;rcases aP6 s with⟨_,u,_,_,_,_,h5⟩|⟨_,_,h3⟩
  ·exact⟨g1,h5⟩
  ·have:=hh.1;omega
 ·cases h
theorem aZ0:∀(k:Nat) (p:List Str) (acc L:List Pt),p.length=4*k->pts p acc=some L->∃M,L=acc++M/\p=M.flatMap prt/\(∀q∈M,I64 q.1)/\∀q∈M,q.2.2.1∈p/\q.2.2.2∈p
 |0,p,acc,L,hp,h=>by
  have:p=[]:=de.1 (by omega);subst this;cases h;exact⟨[],by simp,rfl,⟨fun q hq=>(fv hq).elim,fun q hq=>(fv hq).elim⟩⟩
 |k+1,p,acc,L,hp,h=>by
  obtain⟨a,b,c,d,r,rfl⟩:∃a b c d r,p=a::b::c::d::r:=by
   match p,hp with
   |a::b::c::d::r,_=>exact⟨a,b,c,d,r,rfl⟩
   |[],h=>simp at h
   |[_],h=>simp at h;omega
   |[_,_],h=>simp at h;omega
   |[_,_,_],h=>simp at h;omega
  have hr:r.length=4*k:=by simp only[bf]at hp;omega
  rw[pts]at h;cases ha:one a with
  |none=>rw[ha]at h;cases h
  |some st=>
   cases hb:one b with
   |none=>rw[ha,hb]at h;cases h
   |some ng=>
    rw[ha,hb]at h;dsimp only at h;split at h
    ·rename_i h01;obtain⟨M,g1,g2,g3,g4⟩:=aZ0 k r _ L hr h;obtain⟨ea,ia⟩:=aZ9 ha;obtain⟨eb,ib⟩:=aZ9 hb;refine⟨(st,(ng==1,(c,d)))::M,by rw[g1,υ];rfl,?_,?_,?_⟩
     ·rw[eo,<-g2];have:sgb (ng==1)=ng:=by rcases h01 with rfl|rfl<;>rfl
      show _=uvI st::uvI (sgb (ng==1))::c::d::r;rw[this,ea,eb]
     ·intro q hq;rcases bo.1 hq with rfl|hq
      ·exact ia
      ·exact g3 q hq
     ·intro q hq;rcases bo.1 hq with rfl|hq
      ·exact⟨by simp,by simp⟩
      ·have:=g4 q hq;exact⟨by simp[this.1],by simp[this.2]⟩
    ·cases h
theorem bAw(hs:s.length<=4000)(h:(gvr s).2=0):s=aEg (gvr s).1/\okV (gvr s).1:=by
 unfold gvr at*;cases hh:hd s 2 8 true with
 |none=>rw[hh]at h;cases h
 |some v=>
  rw[hh]at h;obtain⟨h1,h2,h3⟩:=bEy hh;obtain⟨_,hI,hn,hp⟩:=aY9 hh;dsimp only at h|-;split at h
  ·rename_i h4;rw[if_pos h4];split at h
   ·cases h
   ·rename_i L hL;dsimp only;obtain⟨M,g1,g2,g3,g4⟩:=aZ0 (v.2.length/4) v.2 [] L (by omega) hL;rw[cz]at g1;subst g1;have e:vl (vD v.1 L)=v.1:=by have:=bS3 h1;rw[h2]at this;exact this.symm
    have lM:4*L.length=v.2.length:=by rw[g2,pW]
    refine⟨?_,⟨by rw[e];exact hI,by show L.length<=_;omega,fun q hq=>?_⟩⟩
    ·unfold aEg;rw[e,show vp (vD v.1 L)=L from rfl,<-g2];simpa using h3
    ·have hq:q∈L:=hq;have:=g4 q hq;have:=hp _ this.1;have:=hp _ (g4 q hq).2;exact⟨g3 q hq,by omega,by omega⟩
  ·cases h
set_option maxRecDepth 8000
def enc(s:Sg):Str:=uvI s.1++nL (itm s)
def bFt(s:Sg):Prop:=∀x∈itm s,x.length<=100000
theorem bPv(s:Str):∀n∈aE s,0<=n/\n<256:=fun n hn=>by obtain⟨b,_,rfl⟩:=dk.1 hn;have:=UInt8.toNat_lt b;omega
theorem aQs(h:1<=s.length):aE s≠[]:=fun e=>by
 have:(aE s).length=0:=by rw[e];rfl
 rw[bQ]at this;omega
theorem okS.sm{s:Sg}(h:okS s):smV s.2.2:=fun v hv p hp=>by obtain⟨_,h2,h3⟩:=(h.2 v hv).2.2 p hp;exact⟨h2,h3⟩
theorem bJh(h:wi n 0 14609=true):I64 n:=by unfold wi at h;rw[μ,decide_eq_true_eq,decide_eq_true_eq]at h;exact⟨by omega,by omega⟩
theorem aJp{s:Sg}:(itm s).length=s.2.1.length+s.2.2.length:=by unfold itm;rw[ι,κ,κ]
theorem wI(hN:17179869184<N){s:Sg}(hs:okS s)(hb:bFt s):aN N s=some (if ckS N s=0 then(enc s,0)else([],ckS N s)):=by
 have hc:aT N (s.1,(s.2.1,s.2.2))=some (ckS N s):=aQo hN hs.sm;unfold aN;rw[hc,aB];by_cases h:ckS N s=0
 ·have ok:=aPs.1 h;have hd:=bJh ok.day;have hl:=ok.len;have hvl:=ok.vlen;have hil:(itm s).length<=4400:=by rw[aJp];omega
  have hit:eP N (s.1,(s.2.1,s.2.2))=some (itm s):=bIw (s:=s) (by omega) hs (by omega) (by omega);have hse:=aJ8 (k:=100000) (by omega) hb (by omega);have hul:=eE hd;have hsl:1<=(nL (itm s)).length:=by unfold nL;have:=(eE (iQ (show(itm s).length<=1000000 by omega))).1;rw[ι];omega
  have hse2:(nL (itm s)).length<=500000000:=by have:(100000+10)*(itm s).length<=(100000+10)*4400:=lq _ hil;omega
  have w1:bN N (aE (uvI s.1)) false []=some (((aE (uvI s.1)).length:Int),(true,aE (uvI s.1))):=by unfold bN;rw[aC (aQs hul.1),aC (by rw[bQ];simp only[cf];omega),cz]
  have w2:bN N (aE (nL (itm s))) true (aE (uvI s.1))=some (((aE (nL (itm s))).length:Int),(true,aE (uvI s.1)++aE (nL (itm s)))):=by unfold bN;rw[aC (aQs hsl),aC (by rw[bQ,bQ];omega)]
  have w3:bP N true (aE (uvI s.1)++aE (nL (itm s)))=some (enc s):=by unfold bP;rw[<-sD,aC (aQs (by rw[ι];omega)),aC (bPv _),fH];rfl
  rw[aAm h,bC,xS (by omega) hd,aB,aJ,w1,aB,hit,aB,aJ,aMr (by omega) _ hb (by omega) (by omega),aB,aJ];dsimp only;rw[w2,aB];dsimp only;rw[w3,aB,if_pos h]
 ·rw[aHi h,bS,if_neg h]
def dL:List Str->List Rd->List Vr->Option (List Rd×List Vr)
 |[],r,v=>some (r,v)
 |x::l,r,v=>if(grd x).2=0 then dL l (r++[(grd x).1]) v else if(gvr x).2=0 then dL l r (v++[(gvr x).1])else none
def dok(N:Nat)(s:Str)(n:Int):Option (List Rd×List Vr)->Option Sg
 |none=>none
 |some p=>if ckS N (n,p)=0/\enc (n,p)=s then some (n,p)else none
def aMm:Option Sg->Int×(List Rd×(List Vr×Int))
 |none=>(0,([],([],11)))
 |some g=>(g.1,(g.2.1,(g.2.2,0)))
def okL(r:List Rd)(v:List Vr):Prop:=(∀x∈r,okR x/\(aN4 x).length<=4000)/\∀x∈v,okV x/\(aEg x).length<=4000
theorem okL.S(h:okL r v):okS (n,(r,v)):=⟨fun x hx=>(h.1 x hx).1,fun x hx=>(h.2 x hx).1⟩
theorem okL.I(h:okL r v):bFt (n,(r,v)):=fun x hx=>by
 unfold itm at hx;rcases c8.1 hx with hx|hx
 ·obtain⟨y,hy,rfl⟩:=dk.1 hx;have:=(h.1 y hy).2;omega
 ·obtain⟨y,hy,rfl⟩:=dk.1 hx;have:=(h.2 y hy).2;omega
theorem bSw(N m:Nat):gU N (m+1)=gO N (gU N m):=rfl
theorem aMo{N:Nat}(hN:17179869184<N)(s:Str)(n:Int)(l:List Str)(hx:∀x∈l,x.length<=4000)(hn:l.length<=1000000):∀(k i m:Nat) (r:List Rd) (v:List Vr),i+k=l.length->k<m->r.length+v.length<=i->okL r v->
  gU N m s ((l.length:Nat):Int) (i:Int) 0 n l [] [] r v=some (aMm (dok N s n (dL (l.drop i) r v)))
 |k,i,0,r,v,_,h,_,_=>by omega
 |0,i,m+1,r,v,hi,_,hr,ho=>by
  rw[bSw];unfold gO;rw[aI (decide_eq_false (by omega)),aJ,aJ,wI hN ho.S ho.I,aB,cd (by omega)];unfold dL dok;dsimp only;by_cases h:ckS N (n,(r,v))=0
  ·rw[if_pos h];by_cases h2:enc (n,(r,v))=s
   ·rw[if_pos ⟨h,h2⟩,aAm rfl,bC,show(enc (n,(r,v))==s)=true by rw[beq_iff_eq];exact h2];simp only[aJ,aB,dq,bC];rfl
   ·rw[if_neg (fun q=>h2 q.2),aAm rfl,bC,show(enc (n,(r,v))==s)=false by rw[beq_eq_false_iff_ne];exact h2];simp only[aJ,aB,k6,bS];rfl
  ·rw[if_neg h,if_neg (fun q=>h q.1),aHi h,bS];simp only[aJ,aB,bS];rfl
 |k+1,i,m+1,r,v,hi,hm,hr,ho=>by
  have hlt:i<l.length:=by omega
  have hxl:=hx _ (im hlt);have e1:(i:Int)+1=((i+1:Nat):Int):=by omega
  rw[bSw];unfold gO;rw[aH (decide_eq_true (by omega)),aC (by omega),aC (by omega),ξ,aCm (ν hlt),aNt _ (by omega) (by omega) (by omega),aB,aLl hlt,dL];by_cases h1:(grd l[i]).2=0
  ·obtain⟨c1,c2⟩:=aZ8 h1;rw[wX h1,bS,if_pos h1,aJ,aC (by simp only[bf,cf];omega),aJ,aJ,aJ,aJ,aJ,aRz];dsimp only;rw[aS (by omega) (by omega),aJ,aJ,aJ,aJ,aJ,e1];exact aMo hN s n l hx hn k (i+1) m (r++[(grd l[i]).1]) v (by omega) (by omega) (by rw[ι];simp only[bf,cf];omega) ⟨fun x hx=>by
    rcases c8.1 hx with hx|hx
    ·exact ho.1 x hx
    ·rw[bj.1 hx];exact⟨c2,by rw[<-c1];exact hxl⟩,ho.2⟩
  ·rw[aE2 h1,bC,if_neg h1,aNz _ (by omega) (by omega) (by omega),aB];by_cases h2:(gvr l[i]).2=0
   ·obtain⟨c1,c2⟩:=bAw hxl h2;have h2':(fl (gvr l[i])).2.2.2.2.2.2.2.2=0:=h2;rw[wX h2',bS,if_pos h2,aJ,aC (by simp only[bf,cf];omega),aJ,aJ,aJ,aJ,aJ,aRz];dsimp only;rw[aS (by omega) (by omega),aJ,aJ,aJ,aJ,aJ,e1];exact aMo hN s n l hx hn k (i+1) m r (v++[(gvr l[i]).1]) (by omega) (by omega) (by rw[ι];simp only[bf,cf];omega) ⟨ho.1,fun x hx=>by
     rcases c8.1 hx with hx|hx
     ·exact ho.2 x hx
     ·rw[bj.1 hx];exact⟨c2,by rw[<-c1];exact hxl⟩⟩
   ·have h2':(fl (gvr l[i])).2.2.2.2.2.2.2.2≠0:=h2;rw[aE2 h2',bC,if_neg h2,aDs,aSh];rfl
def dcd(N:Nat)(s:Str):Option Sg:=if(gi s).2.2=0 then(if(eM (s.drop (gi s).2.1.toNat)).2.2=0 then dok N s (gi s).1 (dL (eM (s.drop (gi s).2.1.toNat)).1 [] [])else none)else none
theorem aO1(hN:17179869184<N)(s:Str)(hs:s.length<=1000000)(hx:(eM (s.drop (gi s).2.1.toNat)).2.2=0->∀x∈(eM (s.drop (gi s).2.1.toNat)).1,x.length<=4000):cM N s=some (aMm (dcd N s)):=by
 unfold cM dcd;rw[aA3 (by omega),aB];by_cases h:(gi s).2.2=0
 ·rw[aAm h,bC,if_pos h];rcases aP6 s with⟨_,u,h1,h2,h3,h4,h5⟩|⟨_,_,hh⟩
  ·have e1:(gi s).2.1.toNat=u:=by rw[h1];omega
   have et:(s.drop u).take (s.length-u)=s.drop u:=bk (by rw[aw];omega);have hdl:(s.drop u).length<=s.length:=by rw[aw];omega
   rw[e1]at hx;rw[e1,h1,aC (by omega),aC (by omega),aC (τ _),et,aCe _ (by omega) (by omega) (by omega),aB];by_cases h6:(eM (s.drop u)).2.2=0
   ·have h6':(swp (eM (s.drop u))).2.1=0:=h6;rw[aAm h6',bC,if_pos h6];rcases zZ (s.drop u)with⟨_,_,_,_,g1,_⟩|g
    ·have:=aMo hN s (gi s).1 (eM (s.drop u)).1 (hx h6) (by omega) (eM (s.drop u)).1.length 0 N [] [] (by omega) (by omega) (τ _) ⟨fun x hx=>(fv hx).elim,fun x hx=>(fv hx).elim⟩;rw[cc]at this;exact(aJ (xs:=(swp (eM (s.drop u))).2.2)).trans this
    ·exact absurd h6 g
   ·have h6':(swp (eM (s.drop u))).2.1≠0:=h6;rw[aHi h6',bS,if_neg h6];rfl
  ·omega
 ·rw[aHi h,bS,if_neg h];rfl
theorem bC8(hN:17179869184<N)(s:Str)(hs:s.length<=4000):cM N s=some (aMm (dcd N s)):=aO1 hN s (by omega) fun he x hx=>by
 rcases zZ (s.drop (gi s).2.1.toNat)with⟨_,_,_,_,_,g⟩|g
 ·have:=g x hx;rw[aw]at this;omega
 ·exact absurd he g
theorem bQ3(rest:List Str)(v:List Vr):∀(l r:List Rd),(∀x∈l,okR x)->dL (l.map aN4++rest) r v=dL rest (r++l) v
 |[],r,_=>by rw[bb];rfl
 |x::l,r,h=>by have e:=bK6 (h x (by simp));rw[cu,iu,dL,e,if_pos rfl,bQ3 rest v l (r++[x]) (fun y hy=>h y (by simp[hy])),υ];rfl
theorem bSd(r:List Rd):∀(l v:List Vr),(∀x∈l,okV x)->dL (l.map aEg) r v=some (r,v++l)
 |[],v,_=>by rw[bb];rfl
 |x::l,v,h=>by have hv:=h x (by simp);rw[cu,dL,bS1 hv,if_neg (by omega),bKa hv,if_pos rfl,bSd r l (v++[x]) (fun y hy=>h y (by simp[hy])),υ];rfl
theorem bFm:∀(l:List Str) (r:List Rd) (v:List Vr) (p:List Rd×List Vr),(∀x∈l,x.length<=4000)->okL r v->dL l r v=some p->okL p.1 p.2
 |[],r,v,p,_,ho,h=>by cases h;exact ho
 |x::l,r,v,p,hx,ho,h=>by
  have hxl:=hx x (by simp);rw[dL]at h;by_cases h1:(grd x).2=0
  ·obtain⟨c1,c2⟩:=aZ8 h1;rw[if_pos h1]at h;refine bFm l _ v p (fun y hy=>hx y (by simp[hy])) ⟨fun y hy=>?_,ho.2⟩ h;rcases c8.1 hy with hy|hy
   ·exact ho.1 y hy
   ·rw[bj.1 hy];exact⟨c2,by rw[<-c1];exact hxl⟩
  ·rw[if_neg h1]at h;by_cases h2:(gvr x).2=0
   ·obtain⟨c1,c2⟩:=bAw hxl h2;rw[if_pos h2]at h;refine bFm l r _ p (fun y hy=>hx y (by simp[hy])) ⟨ho.1,fun y hy=>?_⟩ h;rcases c8.1 hy with hy|hy
    ·exact ho.2 y hy
    ·rw[bj.1 hy];exact⟨c2,by rw[<-c1];exact hxl⟩
   ·rw[if_neg h2]at h;cases h
theorem bGh{g:Sg}(hs:s.length<=4000)(h:dcd N s=some g):okS g/\bFt g/\ckS N g=0/\enc g=s:=by
 unfold dcd at h;split at h
 ·split at h
  ·rename_i h6;have hx:∀x∈(eM (s.drop (gi s).2.1.toNat)).1,x.length<=4000:=fun x hx=>by
    rcases zZ (s.drop (gi s).2.1.toNat)with⟨_,_,_,_,_,g⟩|g
    ·have:=g x hx;rw[aw]at this;omega
    ·exact absurd h6 g
   cases hd:dL (eM (s.drop (gi s).2.1.toNat)).1 [] []with
   |none=>rw[hd]at h;cases h
   |some p=>
    have ho:=bFm _ [] [] p hx ⟨fun x hx=>(fv hx).elim,fun x hx=>(fv hx).elim⟩ hd;rw[hd]at h;unfold dok at h;dsimp only at h;split at h
    ·rename_i hc;cases h;exact⟨ho.S,ho.I,hc⟩
    ·cases h
  ·cases h
 ·cases h
theorem aOl(hd:I64 a.1)(hx:∀x∈itm a,x.length<=4000)(hl:(itm a).length<=4400):gi (enc a)=(a.1,((uvI a.1).length:Int),0)/\eM ((enc a).drop (gi (enc a)).2.1.toNat)=(itm a,((nL (itm a)).length:Int),0):=by
 have e1:gi (enc a)=(a.1,((uvI a.1).length:Int),0):=aSb hd _;have e2:(enc a).drop (gi (enc a)).2.1.toNat=nL (itm a):=by rw[e1];show(uvI a.1++nL (itm a)).drop (uvI a.1).length=_;exact qF _ _
 refine⟨e1,?_⟩;rw[e2];have:=aPt (l:=itm a) (fun x h=>by have:=hx x h;omega) (by omega) [];rw[bb]at this;exact this
theorem aR5(hs:okS a)(hx:∀x∈itm a,x.length<=4000)(hc:ckS N a=0):dcd N (enc a)=some a:=by
 have ok:=aPs.1 hc;have h1:=ok.len;have h2:=ok.vlen;obtain⟨e1,e2⟩:=aOl (bJh ok.day) hx (by rw[aJp];omega);have hdl:dL (itm a) [] []=some a.2:=by unfold itm;rw[bQ3 _ _ _ _ hs.1,cz,bSd _ _ _ hs.2,cz]
 unfold dcd;rw[e2];dsimp only;rw[e1];dsimp only;rw[if_pos rfl,if_pos rfl,hdl];unfold dok;dsimp only;rw[if_pos ⟨hc,rfl⟩]
theorem bKc{b:Sg}(ha:okS a)(hb:okS b)(xa:∀x∈itm a,x.length<=4000)(xb:∀x∈itm b,x.length<=4000)(ca:ckS N a=0)(cb:ckS N b=0)(h:enc a=enc b):a=b:=by have h1:=aR5 ha xa ca;rw[h,aR5 hb xb cb]at h1;exact(Option.some.inj h1).symm
theorem aXi(hN:17179869184<N)(hs:okS a)(hx:∀x∈itm a,x.length<=4000)(hc:ckS N a=0)(hl:(enc a).length<=1000000):cM N (enc a)=some (a.1,(a.2.1,(a.2.2,0))):=by have ok:=aPs.1 hc;have h1:=ok.len;have h2:=ok.vlen;obtain⟨e1,e2⟩:=aOl (bJh ok.day) hx (by rw[aJp];omega);rw[aO1 hN (enc a) hl (fun _=>by rw[e2];exact hx),aR5 hs hx hc];rfl
set_option synthInstance.maxSize 100000
set_option synthInstance.maxHeartbeats 400000
theorem bMt(h:Few a)(ha:bCm a):okS a:=⟨ha.1,fun v hv=>by
 obtain⟨p1,p2⟩:=h.pt v hv;obtain⟨q1,q2⟩:=ha.2 v hv;exact⟨q1,by omega,fun p hp=>by
  have:=p2 p hp;exact⟨q2 p hp,by omega,by omega⟩⟩⟩
theorem bGv(h:Few a)(ha:bCm a):∀x∈itm a,x.length<=4000:=fun x hx=>by
 unfold itm at hx;rcases c8.1 hx with hx|hx
 ·obtain⟨r,hr,rfl⟩:=dk.1 hx;have:=aSm (ha.1 r hr) (by show 7<=_;omega);have e:(rl r).length=7:=rfl;unfold aN4;omega
 ·obtain⟨v,hv,rfl⟩:=dk.1 hx;obtain⟨p1,p2⟩:=h.pt v hv;obtain⟨q1,q2⟩:=ha.2 v hv;have h1:=aSm q1 (by show 8<=_;omega);have e:(vl v).length=8:=rfl;have h2:=aJ8 (l:=(vp v).flatMap prt) (k:=12) (by omega) (fun y hy=>by
   obtain⟨p,hp,hy⟩:=List.mem_flatMap.1 hy;have:=p2 p hp;have u1:=(eE (q2 p hp)).2;have u2:=(eE (aXx p.2.1)).2;unfold prt at hy;simp only[bo,fv,or_false]at hy;rcases hy with rfl|rfl|rfl|rfl<;>omega) (by rw[pW];omega)
  rw[pW]at h2;unfold aEg;rw[ι];omega
theorem aSg(h:Few a)(ha:bCm a)(hc:ckS N a=0):(enc a).length<=300000:=by
 have ok:=aPs.1 hc;have h1:=ok.len;have h2:=ok.vlen;have h3:=h.rd;have h4:=h.vs;have hl:(itm a).length<=60:=by rw[aJp];omega
 have:=aJ8 (k:=4000) (by omega) (bGv h ha) (by omega);have:=(eE (bJh ok.day)).2;unfold enc;rw[ι];have:(4000+10)*(itm a).length<=(4000+10)*60:=lq _ hl;omega
theorem aYv(h:∀x∈itm a,x.length<=4000):bFt a:=fun x hx=>by have:=h x hx;omega
theorem bMx(hN:17179869184<N)(hs:okS a)(hb:bFt a)(hc:ckS N a=0){d:Arr 16}(hd:gE N 196 [enc a]=some d):fI N a=some (d,0):=by have he:aN N (a.1,(a.2.1,a.2.2))=some (if ckS N a=0 then(enc a,0)else([],ckS N a)):=wI hN hs hb;unfold fI;rw[he,aB,if_pos hc,aAm rfl,bC,hd,aB]
theorem aYp(hN:17179869184<N)(hsan:gF N=some true)(hh:∀e:Str,e.length<=300000->∃d,gE N 196 [e]=some d)(a b:Sg)(s:Str)(ha:bCm a)(hb:bCm b):dJ N a b s=some true:=by
 obtain⟨x,hx,fx⟩:=aY6 (N:=N) (by omega) a;obtain⟨y,hy,fy⟩:=aY6 (N:=N) (by omega) b;have hx:eV N (a.1,(a.2.1,a.2.2))=some x:=hx;have hy:eV N (b.1,(b.2.1,b.2.2))=some y:=hy;unfold dJ;obtain⟨f,hf,hc⟩:∃f,(bd? (eV N (a.1,(a.2.1,a.2.2))) fun v4=>if? ((!v4)) (some (s,true,a.1,a.2.1,a.2.2,b.1,b.2.1,b.2.2)) (bd? (eV N (b.1,(b.2.1,b.2.2))) fun v5=>if? ((!v5)) (some (s,true,a.1,a.2.1,a.2.2,b.1,b.2.1,b.2.2)) (some (s,(decide (((s.length:Nat):Int)>2000)),a.1,a.2.1,a.2.2,b.1,b.2.1,b.2.2))))=some (s,f,a.1,a.2.1,a.2.2,b.1,b.2.1,b.2.2)/\(f=false->Few a/\Few b/\s.length<=2000):=by
  rw[hx,aB];cases x with
  |false=>exact⟨true,rfl,fun h=>by cases h⟩
  |true=>
   rw[dq,bC,hy,aB];cases y with
   |false=>exact⟨true,rfl,fun h=>by cases h⟩
   |true=>exact⟨_,rfl,fun h=>⟨fx rfl,fy rfl,by have:=of_decide_eq_false h;omega⟩⟩
 rw[hf,aB];dsimp only;cases f with
 |true=>rw[bS,hsan,aB]
 |false=>
  obtain⟨fa,fb,hs⟩:=hc rfl;have sa:=bMt fa ha;have sb:=bMt fb hb;have ia:=bGv fa ha;have ib:=bGv fb hb;have ea:aN N (a.1,(a.2.1,a.2.2))=some (if ckS N a=0 then(enc a,0)else([],ckS N a)):=wI hN sa (aYv ia);have eb:aN N (b.1,(b.2.1,b.2.2))=some (if ckS N b=0 then(enc b,0)else([],ckS N b)):=wI hN sb (aYv ib);have ka:aT N (a.1,(a.2.1,a.2.2))=some (ckS N a):=aQo hN sa.sm;have kb:aT N (b.1,(b.2.1,b.2.2))=some (ckS N b):=aQo hN sb.sm;rw[bC,bC8 hN s (by omega),aB];have hj:∀K:(Int×(List Rd×(List Vr×(Int×(List Rd×List Vr)))))->Option Bool,(jn? (if? ((aMm (dcd N s)).2.2.2==0) (bd? (aN N ((aMm (dcd N s)).1,((aMm (dcd N s)).2.1,(aMm (dcd N s)).2.2.1))) fun v9=>bd? (if? ((v9.2!=0)) (some (true,a.1,a.2.1,a.2.2,b.1,b.2.1,b.2.2)) (if? ((!(v9.1==s))) (some (true,a.1,a.2.1,a.2.2,b.1,b.2.1,b.2.2)) (bd? (aT N ((aMm (dcd N s)).1,((aMm (dcd N s)).2.1,(aMm (dcd N s)).2.2.1))) fun v10=>some ((v10 !=0),a.1,a.2.1,a.2.2,b.1,b.2.1,b.2.2)))) fun w11=>if? (w11.1) (vV (some (false))) (some (.inr (w11.2.1,w11.2.2.1,w11.2.2.2.1,w11.2.2.2.2.1,w11.2.2.2.2.2.1,w11.2.2.2.2.2.2)))) (some (.inr (a.1,a.2.1,a.2.2,b.1,b.2.1,b.2.2)))) K)=K (a.1,a.2.1,a.2.2,b.1,b.2.1,b.2.2):=fun K=>by
   cases hd:dcd N s with
   |none=>rfl
   |some g=>
    obtain⟨g1,g2,g3,g4⟩:=bGh (by omega) hd;have eg:aN N (g.1,(g.2.1,g.2.2))=some (if ckS N g=0 then(enc g,0)else([],ckS N g)):=wI hN g1 g2;have kg:aT N (g.1,(g.2.1,g.2.2))=some (ckS N g):=aQo hN g1.sm;show jn? (if? ((0:Int)==0) (bd? (aN N (g.1,(g.2.1,g.2.2))) _) _) K=_;dsimp only[aMm];rw[wX rfl,bS,eg,aB,if_pos g3,aAm rfl,bC,g4,beq_self_eq_true,dq,bC,kg,aB,aB];dsimp only;rw[aAm g3,bC,aRz]
  rw[hj];dsimp only;rw[ea,aB,eb,aB];by_cases ca:ckS N a=0
  ·by_cases cb:ckS N b=0
   ·rw[if_pos ca,if_pos cb,aAm rfl,bC,aB];dsimp only;rw[bC];obtain⟨da,hda⟩:=hh (enc a) (aSg fa ha ca);obtain⟨db,hdb⟩:=hh (enc b) (aSg fb hb cb);have ja:fI N (a.1,(a.2.1,a.2.2))=some (da,0):=bMx hN sa (aYv ia) ca hda;have jb:fI N (b.1,(b.2.1,b.2.2))=some (db,0):=bMx hN sb (aYv ib) cb hdb;have l1:=(aPs.1 ca).len;have l2:=(aPs.1 ca).vlen;have hsm:∀c:Sg,dK N (a.1,(a.2.1,a.2.2)) (c.1,(c.2.1,c.2.2))=some (decide (a=c)):=fun c=>bOx (a:=a) (b:=c) (by omega) (by omega) (fun v hv=>by have:=(fa.pt v hv).1;exact⟨by omega,by omega⟩) (by omega) (by omega);have le:(enc a).length<=1000000:=by have:=aSg fa ha ca;omega
    rw[aXi hN sa ia ca le,aB,ja,aB,jb,aB,hsm b,aB,hsan,aB,bS];dsimp only;rw[wX rfl,bS,hsm a,aB,decide_eq_true rfl,bS,bS,bS];by_cases hab:a=b
    ·subst hab;rw[hda]at hdb;cases hdb;rw[decide_eq_true rfl,beq_self_eq_true,beq_self_eq_true,bS,bS,beq_self_eq_true,bS];rfl
    ·have hne:enc a≠enc b:=fun e=>hab (bKc sa sb ia ib ca cb e);rw[decide_eq_false hab,show(enc a==enc b)=false by rw[beq_eq_false_iff_ne];exact hne,show(false==false)=true from rfl,bS,bC,k6,bS,hda,hdb];cases hdd:da.l==db.l with
     |false=>rfl
     |true=>
      rw[dq,bC,aB,aB,hdd];rfl
   ·rw[if_pos ca,if_neg cb,aAm rfl,bC,aB];dsimp only;rw[aHi cb,bS,hsan,aB,bS,ka,aB,wX rfl,wX ca,beq_self_eq_true,bS,kb,aB,aB,beq_self_eq_true]
  ·rw[if_neg ca,aHi ca,bS,aB];dsimp only;rw[bS,hsan,aB,bS,ka,aB,beq_self_eq_true,bS,kb,aB,aB];by_cases cb:ckS N b=0
   ·rw[if_pos cb,wX rfl,wX cb];rfl
   ·rw[if_neg cb,beq_self_eq_true]
theorem aR8(k:IntKind)(x y:Int):bits .or k x y=bits .or k y x:=by show k.wrap ((j0 k.bits x|||j0 k.bits y).toNat:Int)=k.wrap ((j0 k.bits y|||j0 k.bits x).toNat:Int);rw[BitVec.or_comm]
theorem set_set{n:Nat}(x:Arr n)(i:Nat)(a b:Int):(x.set i a).set i b=x.set i b:=Arr.ext (by rw[Arr.l_set,Arr.l_set,Arr.l_set,List.set_set])
theorem aMu{n:Nat}(x:Arr n)(i:Nat)(a:Int)(h:i<n):(x.set i a).l.getD i 0=a:=by rw[Arr.l_set,az,List.getElem?_set_self (by rw[x.len];exact h)];rfl
theorem aS9{n:Nat}(x:Arr n)(i j:Nat)(a:Int)(h:i≠j):(x.set i a).l.getD j 0=x.l.getD j 0:=by rw[Arr.l_set,az,List.getElem?_set_ne h,az]
theorem aWk{n:Nat}(x:Arr n){j:Int}{f:Int->Option β}(h0:0<=j)(h:j<n):gd? (0<=j) (gd? (j<((n:Nat):Int)) (gn? x.l j.toNat f))=f (x.l.getD j.toNat 0):=by
 have h':j.toNat<x.l.length:=by rw[x.len];omega
 rw[aC h0,aC h,aCm (ν h'),az,ν h'];rfl
def Byt(l:List Int):Prop:=∀x∈l,0<=x/\x<256
def ror(x n:Int):Int:=bits .or .u32 (x/2^n.toNat) (δ .u32 (x*2^(32-n).toNat))
theorem pQ(N:Nat)(x n:Int)(h:bits .and .u64 (δ .u64 (-n)) 31=32-n)(h0:0<=n)(h1:n<=32)(hw:δ .u64 (32-(32-n))=n):aG N x (-n)=some (ror x n):=by have e:(gm .u32:Int)=32:=rfl;unfold aG ror;rw[h,hw,aC (by omega),aC (by omega),aC h0,aC (by omega),aR8]
theorem bT1(N:Nat)(x:Int):aG N x (-6)=some (ror x 6):=pQ N x 6 (by decide+kernel) (by decide) (by decide) (by decide+kernel)
theorem bS0(N:Nat)(x:Int):aG N x (-11)=some (ror x 11):=pQ N x 11 (by decide+kernel) (by decide) (by decide) (by decide+kernel)
theorem bRq(N:Nat)(x:Int):aG N x (-25)=some (ror x 25):=pQ N x 25 (by decide+kernel) (by decide) (by decide) (by decide+kernel)
theorem bT8(N:Nat)(x:Int):aG N x (-2)=some (ror x 2):=pQ N x 2 (by decide+kernel) (by decide) (by decide) (by decide+kernel)
theorem bR2(N:Nat)(x:Int):aG N x (-13)=some (ror x 13):=pQ N x 13 (by decide+kernel) (by decide) (by decide) (by decide+kernel)
theorem bTl(N:Nat)(x:Int):aG N x (-22)=some (ror x 22):=pQ N x 22 (by decide+kernel) (by decide) (by decide) (by decide+kernel)
theorem bTv(N:Nat)(x:Int):aG N x (-7)=some (ror x 7):=pQ N x 7 (by decide+kernel) (by decide) (by decide) (by decide+kernel)
theorem bRk(N:Nat)(x:Int):aG N x (-18)=some (ror x 18):=pQ N x 18 (by decide+kernel) (by decide) (by decide) (by decide+kernel)
theorem bSx(N:Nat)(x:Int):aG N x (-17)=some (ror x 17):=pQ N x 17 (by decide+kernel) (by decide) (by decide) (by decide+kernel)
theorem bQ4(N:Nat)(x:Int):aG N x (-19)=some (ror x 19):=pQ N x 19 (by decide+kernel) (by decide) (by decide) (by decide+kernel)
theorem bRa(N:Nat)(x:Int):lT N x 6 11 25=some (bits .xor .u32 (bits .xor .u32 (ror x 6) (ror x 11)) (ror x 25)):=by unfold lT;rw[bT1,bS0,bRq];rfl
theorem bQ9(N:Nat)(x:Int):lT N x 2 13 22=some (bits .xor .u32 (bits .xor .u32 (ror x 2) (ror x 13)) (ror x 22)):=by unfold lT;rw[bT8,bR2,bTl];rfl
theorem bEg(N m:Nat):eU N (m+1)=eW N (eU N m):=rfl
theorem aTa(N:Nat)(p:List Int)(a2:Arr 64):∀(k t m:Nat) (w:Arr 64),t+k=64->16<=t->k<m->∃r,eU N m p (t:Int) a2 w=some r
 |k,t,0,w,_,_,h=>by omega
 |0,t,m+1,w,h,h1,_=>by
  rw[bEg];unfold eW;rw[aI (decide_eq_false (by omega))];exact⟨_,rfl⟩
 |k+1,t,m+1,w,h,h1,hm=>by
  rw[bEg];unfold eW;rw[aH (decide_eq_true (by omega)),aI (decide_eq_false (by omega))];have n1:((t:Int)+1)=((t+1:Nat):Int):=by omega
  have g1:∀{n:Nat} {α:Type} {a:Option α},64=n->gd? ((t:Int)<((n:Nat):Int)) a=a:=fun e=>aC (by omega);have g2:∀{α:Type} {a:Option α},gd? (0<=(t:Int)) a=a:=aC (by omega);have g3:∀{α:Type} {a:Option α},gd? ((t:Int).toNat<64) a=a:=aC (by omega);rw[aS (by omega) (by omega),aWk w (by omega) (by omega),aS (by omega) (by omega),aWk w (by omega) (by omega),bTv,aB,bRk,aB,bSx,aB,bQ4,aB,aS (by omega) (by omega),aWk w (by omega) (by omega),aS (by omega) (by omega),aWk w (by omega) (by omega),g2,g1 rfl,g3,aB];dsimp only;rw[aS (n:=(t:Int)+1) (by omega) (by omega),n1];exact aTa N p a2 k (t+1) m _ (by omega) (by omega) (by omega)
theorem bT9{p:List Int}{i:Nat}(h:i+4<=p.length):∃a b c d r,p.drop i=a::b::c::d::r:=by
 match hp:p.drop i with
 |[]=>have:=congrArg List.length hp;simp at this;omega
 |[_]=>have:=congrArg List.length hp;simp at this;omega
 |[_,_]=>have:=congrArg List.length hp;simp at this;omega
 |[_,_,_]=>have:=congrArg List.length hp;simp at this;omega
 |a::b::c::d::r=>exact⟨a,b,c,d,r,rfl⟩
theorem bM7(m:Nat):cT (m+1)=iS (cT m):=rfl
theorem aSi(p l:List Int)(t j m n:Nat)(x:Int)(a2 w:Arr 64)(ht:t<64)(hn:l.length=n)(hx:l[j]?=some x)(hj:j<100):
  cT (m+1) p (t:Int) (t:Int) l (n:Int) (j:Int) a2 w=cT m p (t:Int) (t:Int) l (n:Int) ((j+1:Nat):Int) a2 (w.set t (bits .or .u32 (δ .u32 (w.l.getD t 0*2^8)) (δ .u32 x))):=by have hlt:j<l.length:=(List.getElem?_eq_some_iff.1 hx).1;rw[bM7];unfold iS;rw[aH (decide_eq_true (by omega)),cD hx,aWk w (by omega) (by omega),aC (by omega),aC (by omega),aC (by omega),aS (by omega) (by omega),ξ,show((j:Int)+1)=((j+1:Nat):Int) by omega]
theorem bGr(p:List Int)(t m:Nat)(a2 w:Arr 64)(a b c d:Int)(ht:t<16)(h0:w.l.getD t 0=0):
  cT (m+5) p (t:Int) (t:Int) [a,b,c,d] ((4:Nat):Int) 0 a2 w=some (p,(t:Int),a2,w.set t (bits .or .u32 (δ .u32 (bits .or .u32 (δ .u32 (bits .or .u32 (δ .u32 (bits .or .u32 (δ .u32 (0*2^8)) (δ .u32 a)*2^8)) (δ .u32 b)*2^8)) (δ .u32 c)*2^8)) (δ .u32 d))):=by
 have t64:t<64:=by omega
 refine(aSi p [a,b,c,d] t 0 (m+4) 4 a a2 w t64 rfl rfl (by omega)).trans ?_;rw[aSi p [a,b,c,d] t 1 (m+3) 4 b a2 _ t64 rfl rfl (by omega),aSi p [a,b,c,d] t 2 (m+2) 4 c a2 _ t64 rfl rfl (by omega),aSi p [a,b,c,d] t 3 (m+1) 4 d a2 _ t64 rfl rfl (by omega),bM7];unfold iS;rw[aI (decide_eq_false (by omega)),aMu _ _ _ t64,aMu _ _ _ t64,aMu _ _ _ t64,set_set,set_set,set_set,h0]
theorem aT3(N:Nat)(p:List Int)(hp:p.length=64)(hN:70<=N)(a2:Arr 64):∀(k t m:Nat) (w:Arr 64),t+k=16->64<m+t->(∀j,t<=j->w.l.getD j 0=0)->∃r,eU N m p (t:Int) a2 w=some r
 |k,t,0,w,_,h,_=>by omega
 |0,t,m+1,w,h,h2,_=>by
  obtain rfl:t=16:=by omega
  exact aTa N p a2 48 16 (m+1) w (by omega) (by omega) (by omega)
 |k+1,t,m+1,w,h,h2,hz=>by
  obtain⟨a,b,c,d,r,hr⟩:=bT9 (p:=p) (i:=4*t) (by omega);obtain⟨n,rfl⟩:∃n,N=n+5:=⟨N-5,by omega⟩;have hq:(p.drop (4*(t:Int)).toNat).take (((4*(t:Int))+4).toNat-(4*(t:Int)).toNat)=[a,b,c,d]:=by rw[show(4*(t:Int)).toNat=4*t by omega,show((4*(t:Int))+4).toNat-4*t=4 by omega,hr];rfl
  have hw:=bGr p t n a2 w a b c d (by omega) (hz t (τ _));rw[bEg];unfold eW;rw[aH (decide_eq_true (by omega)),aH (decide_eq_true (by omega)),hq,aS (n:=4*(t:Int)) (by omega) (by omega),aS (n:=4*(t:Int)) (by omega) (by omega),aS (by omega) (by omega),aC (by omega),aC (by omega),aC (by omega),aC (by omega)];show∃r,(bd? (cT (n+5) p (t:Int) (t:Int) [a,b,c,d] ((4:Nat):Int) 0 a2 w) _)=some r;rw[hw,aB];dsimp only;rw[aS (n:=(t:Int)+1) (by omega) (by omega),show((t:Int)+1)=((t+1:Nat):Int) by omega];exact aT3 (n+5) p hp hN a2 k (t+1) m _ (by omega) (by omega) fun j hj=>by rw[aS9 _ _ _ _ (by omega)];exact hz j (by omega)
theorem bIm(j n:Nat):(ω n (0:Int)).getD j 0=0:=by rw[az,List.getElem?_replicate];split<;>rfl
theorem aT8(p:List Int)(hp:p.length=64)(hN:70<=N):∃r,lN N p=some r:=by unfold lN;exact aT3 N p hp hN _ 16 0 N _ (by omega) (by omega) fun j _=>bIm j 64
def j8(a b:Arr 4):Arr 8:=⟨a.l++b.l,by rw[ι,a.len,b.len]⟩
theorem bLd(x:Arr 4):∃a b c d,x=⟨[a,b,c,d],rfl⟩:=by
 obtain⟨l,h⟩:=x
 match l,h with
 |[a,b,c,d],h=>exact⟨a,b,c,d,rfl⟩
theorem bUh(x:Arr 8):∃a b c d e f g h,x=⟨[a,b,c,d,e,f,g,h],rfl⟩:=by
 obtain⟨l,h⟩:=x
 match l,h with
 |[a,b,c,d,e,f,g,h],_=>exact⟨a,b,c,d,e,f,g,h,rfl⟩
theorem gn0{a:α}{l:List α}{f:α->Option β}:gn? (a::l) 0 f=f a:=rfl
theorem gn1{a b:α}{l:List α}{f:α->Option β}:gn? (a::b::l) 1 f=f b:=rfl
theorem gn2{a b c:α}{l:List α}{f:α->Option β}:gn? (a::b::c::l) 2 f=f c:=rfl
theorem gn3{a b c d:α}{l:List α}{f:α->Option β}:gn? (a::b::c::d::l) 3 f=f d:=rfl
theorem bT7{t:Nat}{f:Int->Option β}(h:t<64):aU gl0 (t:Int) f=f (gl0.getD t 0):=by have hl:t<gl0.length:=h;rw[cD (ν hl),az,ν hl];rfl
theorem hM:(ite ((IntKind.signed IntKind.u32)=true) (-1) (ou IntKind.u32):Int)=4294967295:=by decide
theorem bM2(N m:Nat):fF N (m+1)=iI N (fF N m):=rfl
theorem bIt(N:Nat)(pf)(z s:Arr 8)(w:Arr 64):∀(k t m:Nat) (x y:Arr 4),t+k=64->k<m->
  ∃x' y',fF N m (Arr.mk gl0 pf) (t:Int) s z w x y=iO N 0 s z x' y'
 |k,t,0,x,y,_,h=>by omega
 |0,t,m+1,x,y,h,_=>by
  rw[bM2];unfold iI;rw[aI (decide_eq_false (by omega))];exact⟨x,y,rfl⟩
 |k+1,t,m+1,x,y,h,hm=>by
  obtain⟨v0,v1,v2,v3,rfl⟩:=bLd x;obtain⟨e0,e1,e2,e3,rfl⟩:=bLd y;have ht:t<64:=by omega
  have n1:((t:Int)+1)=((t+1:Nat):Int):=by omega
  rw[bM2];unfold iI;rw[aH (decide_eq_true (by omega))];simp(disch:=omega)only[gn0,gn1,gn2,gn3,bT7 ht,aWk w,bRa,bQ9,aB,aS,aJ,n1,hM];exact bIt N pf z s w k (t+1) m _ _ (by omega) (by omega)
def bTi(s:Arr 8)(v:Arr 8):Arr 8:=⟨List.zipWith (fun a b=>δ .u32 (a+b)) s.l v.l,by rw[List.length_zipWith,s.len,v.len];rfl⟩
theorem bS2(n:Nat)(x y:Arr 4)(s z:Arr 8):iO (n+5) 0 s z x y=some (bTi s (j8 x y)):=by obtain⟨v0,v1,v2,v3,rfl⟩:=bLd x;obtain⟨e0,e1,e2,e3,rfl⟩:=bLd y;obtain⟨a,b,c,d,e,f,g,h,rfl⟩:=bUh s;rfl
theorem bL6(N:Nat)(hN:70<=N)(s:Arr 8)(b:List Int)(hb:b.length=64):∃r,dW N s b=some r:=by obtain⟨w,h1⟩:=aT8 b hb hN;obtain⟨n,rfl⟩:∃n,N=n+9:=⟨N-9,by omega⟩;obtain⟨x',y',hh⟩:=bIt (n+9) (XS.ev._proof_1 gl0) (Arr.zero 8) s w 64 0 (n+9) (s.part 0 4) (s.part 4 4) (by omega) (by omega);have hh:fF (n+9) (n+9) (Arr.mk gl0 (XS.ev._proof_1 gl0)) 0 s (Arr.zero 8) w (s.part 0 4) (s.part 4 4)=iO (n+9) 0 s (Arr.zero 8) x' y':=hh;refine⟨bTi s (j8 x' y'),?_⟩;unfold dW;rw[h1,aB,aC rfl,aC rfl,aC rfl,hh];exact bS2 (n+4) x' y' s _
def bHe(N:Nat)(s:Arr 8)(b:List Int):Arr 8:=(dW N s b).getD (Arr.zero 8)
theorem bNo(N:Nat)(hN:70<=N)(s:Arr 8)(b:List Int)(hb:b.length=64)(hB:Byt b):dW N s b=some (bHe N s b):=by obtain⟨r,h⟩:=bL6 N hN s b hb;unfold bHe;rw[h];rfl
def aB5(N:Nat):Nat->Arr 8->List Int->Arr 8
 |0,s,_=>s
 |k+1,s,l=>aB5 N k (bHe N s (l.take 64)) (l.drop 64)
theorem aMq(N:Nat):∀(k:Nat) (s:Arr 8) (l:List Int),aB5 N (k+1) s l=bHe N (aB5 N k s l) ((l.drop (64*k)).take 64)
 |0,s,l=>rfl
 |k+1,s,l=>by rw[aB5,aMq N k,aB5,dv,show 64+64*k=64*(k+1) by omega]
theorem aGs(N:Nat):∀(k:Nat) (s:Arr 8) (l m:List Int),64*k<=l.length->aB5 N k s (l++m)=aB5 N k s l
 |0,s,l,m,_=>rfl
 |k+1,s,l,m,h=>by rw[aB5,aB5,gf (by omega),ee (by omega)];exact aGs N k _ _ _ (by rw[aw];omega)
theorem bD5(h:Byt l)(n:Nat):Byt (l.take n):=fun x hx=>h x (List.mem_of_mem_take hx)
theorem bGn(h:Byt l)(n:Nat):Byt (l.drop n):=fun x hx=>h x (List.mem_of_mem_drop hx)
theorem bI2{m:List Int}(h:Byt l)(h':Byt m):Byt (l++m):=fun x hx=>(c8.1 hx).elim (h x) (h' x)
theorem bRy(m:Nat):eA (m+1)=fZ (eA m):=rfl
theorem bSc(st:Arr 8×(Arr 64×Int))(a:Arr 32):∀(k t m:Nat) (r:Arr 32),t+k=32->k<m->∃v,eA m (t:Int) st a r=some v
 |k,t,0,r,_,h=>by omega
 |0,t,m+1,r,h,_=>by
  rw[bRy];unfold fZ;rw[aI (decide_eq_false (by omega))];exact⟨_,rfl⟩
 |k+1,t,m+1,r,h,hm=>by
  have e1:Int.tdiv (t:Int) 4=((t/4:Nat):Int):=by rw[show(4:Int)=((4:Nat):Int)from rfl,<-Int.ofNat_tdiv]
  have e2:ei (t:Int) 4=((t%4:Nat):Int):=by rw[show(4:Int)=((4:Nat):Int)from rfl,<-mw]
  have e3:(gm .u32:Int)=32:=rfl;rw[bRy];unfold fZ;rw[e1,e2,aH (decide_eq_true (by omega)),aS (n:=((t/4:Nat):Int)) (by omega) (by omega)];rw[aWk st.1 (j:=((t/4:Nat):Int)) (by omega) (by omega)];rw[aS (n:=8*((t%4:Nat):Int)) (by omega) (by omega),aS (n:=24-8*((t%4:Nat):Int)) (by omega) (by omega),aC (by omega),aC (by omega),aC (by omega),aC (by omega),aC (by omega),aS (n:=(t:Int)+1) (by omega) (by omega),show((t:Int)+1)=((t+1:Nat):Int) by omega];exact bSc st a k (t+1) m _ (by omega) (by omega)
theorem bG2(t:Str):Byt (aE t):=by intro x hx;obtain⟨c,_,rfl⟩:=dk.1 hx;have:=c.toNat_lt;omega
theorem aX5(h:Byt l):aE (aO l)=l:=by
 induction l with
 |nil=>rfl
 |cons x l ih=>
  have hx:=h x (by simp);have:aE (aO (x::l))=((UInt8.ofNat x.toNat).toNat:Int)::aE (aO l):=rfl;rw[this,ih fun y hy=>h y (by simp[hy])];congr 1;rw[UInt8.toNat_ofNat'];omega
theorem aK3:(aO l).length=l.length:=κ _
theorem wM(t:Str)(n:Nat):(aE t).take n=aE (t.take n):=(bu).symm
theorem bE2(t u:Str):aE (t++u)=aE t++aE u:=bq
theorem bQ8{x:Int}(h:0<=x)(h':x<18446744073709551616):δ .u64 x=x:=Go.u64_wrap_id x h h'
abbrev St:=Arr 8×(Arr 64×Int)
theorem bRx(N m:Nat):bX N (m+1)=kL N (bX N m):=rfl
theorem bD1(N m:Nat)(a1:Str)(s:Arr 8)(b:Arr 64)(n:Nat)(z:St)(h:a1≠[])(hn:n<1099511627776)(ha:a1.length<1099511627776):
  bX N (m+1) a1 (s,(b,(n:Int))) z=if n%64+min a1.length (64-n%64)=64 then bd? (dW N s (b.put (n%64) ((aE a1).take (min a1.length (64-n%64)))).l) (fun v=>bX N m (a1.drop (min a1.length (64-n%64))) (v,(b.put (n%64) ((aE a1).take (min a1.length (64-n%64))),((n+min a1.length (64-n%64):Nat):Int))) z)else bX N m (a1.drop (min a1.length (64-n%64))) (s,(b.put (n%64) ((aE a1).take (min a1.length (64-n%64))),((n+min a1.length (64-n%64):Nat):Int))) z:=by
 have e:δ .i64 (ei (n:Int) 64)=((n%64:Nat):Int):=by rw[show(64:Int)=((64:Nat):Int)from rfl,<-mw,aNl (by omega) (by omega)]
 have hb:(!(a1==([]:Str)))=true:=by cases a1 with
  |nil=>exact absurd rfl h
  |cons x y=>rfl
 rw[bRx];unfold kL;rw[hb,bS];dsimp only;rw[e,ξ,bQ];generalize hA:n%64=A;have hA':A<64:=by omega
 generalize hC:min a1.length (64-A)=C;have hC':C<=a1.length:=by omega
 have hC2:A+C<=64:=by omega
 have hd:(a1.drop C).take (a1.length-C)=a1.drop C:=bk (by rw[aw];exact τ _);rw[ξ,bQ8 (x:=(C:Int)) (by omega) (by omega),bQ8 (x:=(n:Int)+(C:Int)) (by omega) (by omega),hd,show((n:Int)+(C:Int))=((n+C:Nat):Int) by omega];rw[aC (by omega),aC (by omega),aC (by omega),aC (by omega),aC (by omega),aC (by omega),aS (by omega) (by omega)];by_cases hq:A+C=64
 ·rw[if_pos hq,wX (by omega),bS,aC (by omega)];have hc:aC3 (b.put A ((aE a1).take C)).l 0 (64-0) 64=(b.put A ((aE a1).take C)).l:=by have:=(b.put A ((aE a1).take C)).len;unfold aC3;simp[this]
  rw[hc]
 ·rw[if_neg hq,aE2 (by omega),bC]
def h0:Arr 8:=Arr.from [1779033703,3144134277,1013904242,2773480762,1359893119,2600822924,528734635,1541459225] 8
structure Rep (N:Nat) (st:St) (msg:List Int):Prop where
 n:st.2.2=(msg.length:Int)
 state:st.1=aB5 N (msg.length/64) h0 msg
 tail:st.2.1.l.take (msg.length%64)=msg.drop (64*(msg.length/64))
 byt:Byt msg
theorem aQn(N:Nat)(hN:70<=N)(z:St):∀(m:Nat) (a1:Str) (st:St) (msg:List Int),Rep N st msg->(a1.length=0/\1<=m)\/(msg.length%64+a1.length)/64+2<=m->msg.length+a1.length<1099511627776->∃st',bX N m a1 st z=some st'/\Rep N st' (msg++aE a1)
 |0,a1,st,msg,_,h,_=>by omega
 |m+1,[],st,msg,hR,_,_=>by
  refine⟨st,?_,?_⟩
  ·rw[bRx];rfl
  ·show Rep N st (msg++[]);rw[bb];exact hR
 |m+1,x::a,st,msg,hR,h,hl=>by
  have h:(msg.length%64+(x::a).length)/64+2<=m+1:=h.elim (fun h=>by simp at h) id;generalize hxa:x::a=a1 at h hl|-;have hne:a1≠[]:=by rw[<-hxa];exact List.cons_ne_nil _ _
  have hpos:0<a1.length:=by rw[<-hxa];exact Nat.succ_pos _
  clear hxa;have hst0:st=(st.1,(st.2.1,((msg.length:Nat):Int))):=by rw[<-hR.n]
  rw[hst0,bD1 N m a1 st.1 st.2.1 msg.length z hne (by omega) (by omega)];clear hst0;have hA':msg.length%64<64:=Nat.mod_lt _ (by omega);have htl:=hR.tail;have hst:=hR.state;have hdm:=Nat.div_add_mod msg.length 64;generalize hA:msg.length%64=A at*;generalize hQ:msg.length/64=Q at*;generalize hC:min a1.length (64-A)=C;have hC':C<=a1.length:=by omega
  have hC0:0<C:=by omega
  have hC2:A+C<=64:=by omega
  have hlt:((aE a1).take C).length=C:=by rw[bn,bQ];omega
  have hput:(st.2.1.put A ((aE a1).take C)).l=st.2.1.l.take A++(aE a1).take C++st.2.1.l.drop (A+C):=by rw[Arr.l_put (by omega),hlt]
  have hsp:a1=a1.take C++a1.drop C:=(gv C a1).symm;have hm2:msg++aE a1=(msg++aE (a1.take C))++aE (a1.drop C):=by rw[υ,<-bE2,gv]
  have hl2:(msg++aE (a1.take C)).length=msg.length+C:=by rw[ι,<-wM,hlt]
  have hB2:Byt (msg++aE (a1.take C)):=bI2 hR.byt (bG2 _);rw[hm2];by_cases hq:A+C=64
  ·rw[if_pos hq];have hpl:(st.2.1.put A ((aE a1).take C)).l=st.2.1.l.take A++(aE a1).take C:=by rw[hput,hq,ff (by rw[st.2.1.len];exact τ _),bb]
   have hblk:(st.2.1.put A ((aE a1).take C)).l=((msg++aE (a1.take C)).drop (64*Q)).take 64:=by have h64:(msg.drop (64*Q)++aE (a1.take C)).take 64=msg.drop (64*Q)++aE (a1.take C):=bk (by rw[ι,aw,<-wM,hlt];omega);rw[hpl,ee (by omega),htl,wM,h64]
   have hcomp:=bNo N hN st.1 (st.2.1.put A ((aE a1).take C)).l (Arr.len _) (by rw[hblk];exact bD5 (bGn hB2 _) _);rw[hcomp,aB];have hR':Rep N ((bHe N st.1 (st.2.1.put A ((aE a1).take C)).l),((st.2.1.put A ((aE a1).take C)),((msg.length+C:Nat):Int))) (msg++aE (a1.take C)):=by
    refine⟨?_,?_,?_,hB2⟩
    ·rw[hl2]
    ·rw[hl2,show(msg.length+C)/64=Q+1 by omega,aMq,aGs N Q h0 msg _ (by omega),<-hst,hblk]
    ·rw[hl2,show(msg.length+C)%64=0 by omega,show(msg.length+C)/64=Q+1 by omega,iq,ff (by omega)]
   exact aQn N hN z m (a1.drop C) _ _ hR' (.inr (by rw[hl2,aw];omega)) (by rw[hl2,aw];omega)
  ·rw[if_neg hq];have hR':Rep N (st.1,((st.2.1.put A ((aE a1).take C)),((msg.length+C:Nat):Int))) (msg++aE (a1.take C)):=by
    refine⟨?_,?_,?_,hB2⟩
    ·rw[hl2]
    ·rw[hl2,show(msg.length+C)/64=Q by omega,aGs N Q h0 msg _ (by omega),<-hst]
    ·rw[hl2,show(msg.length+C)%64=A+C by omega,show(msg.length+C)/64=Q by omega,hput,ee (by omega),<-htl,wM];have hln:(st.2.1.l.take A++aE (a1.take C)).length=A+C:=by rw[ι,bn,st.2.1.len,<-wM,hlt];omega
     rw[gf (Nat.le_of_eq hln.symm),bk (Nat.le_of_eq hln)]
   exact aQn N hN z m (a1.drop C) _ _ hR' (.inl (by rw[aw];omega)) (by rw[hl2,aw];omega)
theorem aQc(N:Nat)(hN:70<=N)(st:St)(msg:List Int)(t:Str)(hR:Rep N st msg)(h:t.length/64+3<=N)(hl:msg.length+t.length<1099511627776):∃st',cA N st t=some st'/\Rep N st' (msg++aE t):=
 aQn N hN _ N t st msg hR (.inr (by omega)) hl
def bR8(n:Int):List Int:=[δ .u8 (n/2^(56:Nat)),δ .u8 (n/2^(48:Nat)),δ .u8 (n/2^(40:Nat)),δ .u8 (n/2^(32:Nat)),δ .u8 (n/2^(24:Nat)),δ .u8 (n/2^(16:Nat)),δ .u8 (n/2^(8:Nat)),δ .u8 (n/2^(0:Nat))]
theorem wrap_u8(n:Int):0<=δ .u8 n/\δ .u8 n<256:=by
 have:δ .u8 n=n%256:=by simp[δ,gm,IntKind.signed]
 omega
theorem bRu(N m:Nat):bZ N (m+1)=fW N (bZ N m):=rfl
theorem bR9(N m j:Nat)(z:Int)(st:St)(w:Arr 32)(a:List Int)(hj:j<8)(ha:a.length<1099511627776):bZ N (m+1) z (j:Int) st w a=bZ N m z ((j+1:Nat):Int) st w (a++[δ .u8 (z/2^(56-8*j))]):=by have eb:(gm .u64:Int)=64:=rfl;rw[bRu];unfold fW;rw[aH (decide_eq_true (by omega)),aS (by omega) (by omega),aS (by omega) (by omega),aC (by omega),aC (by omega),aJ,aC (by simp only[bf,cf];omega),aS (by omega) (by omega),aJ,show(56-8*(j:Int)).toNat=56-8*j by omega,show((j:Int)+1)=((j+1:Nat):Int) by omega]
def bFn(z:Int):Nat->List Int->List Int
 |0,a=>a
 |k+1,a=>bFn z k (a++[δ .u8 (z/2^(56-8*(7-k)))])
theorem bOz(z:Int)(a:List Int):bFn z 8 a=a++bR8 z:=by simp only[bFn,υ,iu,cz];rfl
theorem bNj(N:Nat)(z:Int)(st:St)(w:Arr 32):∀(k j m:Nat) (a:List Int),j+k=8->k<m->a.length+k<1099511627776->bZ N m z (j:Int) st w a=(bd? (cA N st (aO (bFn z k a))) fun v=>eA N 0 v w (Arr.zero 32))
 |k,j,0,a,_,h,_=>by omega
 |0,j,m+1,a,hj,_,_=>by
  rw[bRu];unfold fW;rw[aI (decide_eq_false (by omega)),aJ];rfl
 |k+1,j,m+1,a,hj,hm,ha=>by rw[bR9 N m j z st w a (by omega) (by omega),bNj N z st w k (j+1) m _ (by omega) (by omega) (by simp only[ι,bf,cf];omega),bFn,show 7-k=j by omega]
theorem bUj(N m:Nat):fP N (m+1)=kR N (fP N m):=rfl
theorem bIf(N:Nat)(zz:Int)(st:St)(w:Arr 32)(p:List Int)(hn:st.2.2=(p.length:Int))(hl:p.length<549755813888):∀(k m:Nat) (a:List Int),(p.length+a.length+k)%64=56->k<64->k<m->a.length+k<549755813888->
  ∃z,(p.length+a.length+z)%64=56/\z<=k/\fP N m zz st w a=bZ N N zz 0 st w (a++ω z 0)
 |k,0,a,_,_,h,_=>by omega
 |k,m+1,a,h,hk,hm,hal=>by
  have e1:ei ((p.length:Int)+(a.length:Int)) 64=(((p.length+a.length)%64:Nat):Int):=by rw[<-Int.natCast_add];exact(mw _ 64).symm
  rw[bUj];unfold kR;rw[hn,aNl (n:=(p.length:Int)) (by omega) (by omega),e1,aS (by omega) (by omega)];by_cases hz:(p.length+a.length)%64=56
  ·refine⟨0,hz,Nat.zero_le _,?_⟩;rw[aAm (by omega),bC,aJ,List.replicate_zero,bb]
  ·rw[aHi (by omega),bS,aJ,aC (by simp only[bf,cf];omega),aJ];obtain⟨k',rfl⟩:∃k',k=k'+1:=⟨k-1,by cases k with
    |zero=>exact absurd h hz
    |succ k=>rfl⟩
   obtain⟨z,h1,h2,h3⟩:=bIf N zz st w p hn hl k' m (a++[0]) (by simp only[ι,bf,cf];omega) (by omega) (by omega) (by simp only[ι,bf,cf];omega);simp only[ι,bf,cf]at h1;refine⟨z+1,by omega,by omega,?_⟩;rw[h3,υ,List.replicate_succ];rfl
theorem bP9(N:Nat)(hN:100<=N)(st:St)(msg:List Int)(hR:Rep N st msg)(hl:msg.length/64+4<=N)(hl':msg.length<900000000):∃r,fD N st=some r:=by
 generalize hzz:δ .u64 (8*st.2.2)=zz;obtain⟨z,h1,h2,h3⟩:=bIf N zz st (Arr.zero 32) msg hR.n (by omega) ((64+56-(msg.length+1)%64)%64) N [128] (by show(msg.length+1+_)%64=56;omega) (by omega) (by omega) (by show 1+_<_;omega);have h1:(msg.length+1+z)%64=56:=h1;generalize hd:[(128:Int)]++ω z 0=d at h3;have hdl:d.length=1+z:=by rw[<-hd];simp;omega
 have hz:z<64:=by omega
 have hdB:Byt d:=by
  intro x hx;rw[<-hd]at hx;rcases c8.1 hx with h|h
  ·simp at h;omega
  ·have:=List.eq_of_mem_replicate h;omega
 have l1:=bNj N zz st (Arr.zero 32) 8 0 N d rfl (by omega) (by omega);rw[bOz]at l1;have h3:=h3.trans l1;generalize hL:bR8 zz=L at h3;have hLl:L.length=8:=by rw[<-hL];rfl
 obtain⟨st',g1,g2⟩:=aQc N (by omega) st msg (aO (d++L)) hR (by rw[aK3,ι];omega) (by rw[aK3,ι];omega);rw[g1,aB]at h3;obtain⟨r,o1⟩:=bSc st' (Arr.zero 32) 32 0 N (Arr.zero 32) rfl (by omega);refine⟨r,?_⟩;unfold fD;rw[hzz];exact h3.trans o1
theorem bRo(N m:Nat):uZ N (m+1)=vB N (uZ N m):=rfl
theorem bUk(N:Nat):Rep N (h0,(Arr.zero 64,0)) []:=⟨rfl,rfl,rfl,fun x hx=>(fv hx).elim⟩
theorem bAf{N:Nat}(hN:1000000<=N)(l:List Str)(hl:l.length<=10)(hp:∀x∈l,x.length<=1000000)(z:Arr 16):∀(k i m:Nat) (st:St) (msg:List Int),i+k=l.length->k<m->Rep N st msg->msg.length<=1+1000010*i->
  ∃r,uZ N m l ((l.length:Nat):Int) (i:Int) z st=some r
 |k,i,0,st,msg,_,h,_,_=>by omega
 |0,i,m+1,st,msg,hi,_,hR,hm=>by
  obtain⟨r,h1⟩:=bP9 N (by omega) st msg hR (by omega) (by omega);rw[bRo];unfold vB;rw[aI (decide_eq_false (by omega))];refine⟨Arr.part r 0 16,?_⟩;show(bd? (fD N st) fun v14=>some (Arr.part v14 0 16))=_;rw[h1,aB]
 |k+1,i,m+1,st,msg,hi,hm,hR,hml=>by
  have hlt:i<l.length:=by omega
  have hx:=hp _ (im hlt);have he:(iV l[i]).length<=1000010:=by unfold iV;have:=(eE (iQ (show(l[i]).length<=1000000 by omega))).2;rw[ι];omega
  obtain⟨st',g1,g2⟩:=aQc N (by omega) st msg (iV l[i]) hR (by omega) (by omega);obtain⟨r,h1⟩:=bAf hN l hl hp z k (i+1) m st' (msg++aE (iV l[i])) (by omega) (by omega) g2 (by rw[ι,bQ];omega);refine⟨r,?_⟩;rw[bRo];unfold vB;rw[aH (decide_eq_true (by omega)),cD (ν hlt),aPl (by omega) _ (by omega),aB,aJ,fH];show(bd? (cA N st (iV l[i])) _)=_;rw[g1,aB,aS (by omega) (by omega),show((i:Int)+1)=((i+1:Nat):Int) by omega];exact h1
theorem bPo(hN:1000000<=N)(p:Int)(l:List Str)(hl:l.length<=10)(hp:∀x∈l,x.length<=1000000):∃r,gE N p l=some r:=by
 have hB:Byt [δ .u8 p]:=fun x hx=>by rw[bj.1 hx];exact wrap_u8 p
 obtain⟨st,g1,g2⟩:=aQc N (by omega) _ [] (aO [δ .u8 p]) (bUk N) (by show 1/64+3<=N;omega) (by show 0+1<_;omega);rw[aX5 hB,cz]at g2;obtain⟨r,h1⟩:=bAf hN l hl hp (Arr.zero 16) l.length 0 N st _ (by omega) (by omega) g2 (by show 1<=_;omega);refine⟨r,?_⟩;unfold gE xG;rw[aB];show(bd? (cA N (h0,(Arr.zero 64,0)) (aO [δ .u8 p])) _)=_;rw[g1,aB];exact h1
end Go.Proofs.Tryz
set_option maxRecDepth 8000
namespace Go.Proofs.Tryz
open Go.Eng Go.RowKit
theorem bIg:gF 17179869200=some true:=by kernel_rfl
end Go.Proofs.Tryz
set_option maxRecDepth 8000
namespace Go.Proofs.Tryz
open Go.Eng Go.RowKit Go.Lib
abbrev sgT:Ty:=tD
abbrev hU:List Ty:=[sgT,sgT,.s]
theorem ac{a:Int}{l:List Int}(h:I64 a)(hl:∀x∈l,I64 x):∀x∈a::l,I64 x:=fun x hx=>by
 rcases bo.1 hx with rfl|hx
 ·exact h
 ·exact hl x hx
theorem an:∀x∈([]:List Int),I64 x:=fun x hx=>(fv hx).elim
theorem nT{n:Int}(h:IntKind.min .i64<=n/\n<=ou .i64):I64 n:=by
 have e1:IntKind.min .i64=-9223372036854775808:=by decide
 have e2:ou .i64=9223372036854775807:=by decide
 rw[e1,e2]at h;exact h
theorem bH7(x:Sg)(h:sgT.ok x):bCm x:=by
 obtain⟨_,⟨_,hr⟩,⟨_,hv⟩⟩:=h;refine⟨fun r h=>?_,fun v h=>?_⟩
 ·obtain⟨r1,r2,r3,r4,r5,r6⟩:=hr r h;exact ac aQe.2 (ac (nT r1) (ac (nT r2) (ac (nT r3) (ac (nT r4) (ac (nT r5) (ac (nT r6) an))))))
 ·obtain⟨v1,v2,v3,v4,v5,v6,v7,_,vq⟩:=hv v h;exact⟨ac ⟨by decide,by decide⟩ (ac (nT v1) (ac (nT v2) (ac (nT v3) (ac (nT v4) (ac (nT v5) (ac (nT v6) (ac (nT v7) an))))))),fun p hp=>nT (vq p hp).1⟩
theorem bCg(N:Nat)(x0 x1:sgT.T)(x2:Str)(h:dJ N x0 x1 x2=some true):ACall Tryz.prog 7 (aPa hU (x0,(x1,(x2,())))) [] (.D (.B true)) [] []:=
 letI:YL:=⟨0⟩
 vN N (x0,(x1,(x2,()))) true h [] rfl
theorem named_acall:∀x:tup hU,aUa hU x->ACall Tryz.prog 7 (aPa hU x) [] (.D (.B true)) [] []
 |(x0,(x1,(x2,()))),hx=>bCg 17179869200 x0 x1 x2 (aYp (by omega) bIg (fun e he=>bPo (by omega) 196 [e] (by show 1<=10;omega) (fun x hx=>by rw[bj.1 hx];omega)) x0 x1 x2 (bH7 x0 hx.1) (bH7 x1 hx.2.1))
end Go.Proofs.Tryz

/- Texts of this claim. -/
import Derived.Test.YtoklpgfaedjjpaaGreatDoorLA
import Derived.Test.YtoklpgfaedjjpaaGreatDoorLP
import Derived.Lib.Varint
import Derived.Lib.BitFns
import Derived.Laws.Bits64
import Derived.Test.YtoklpgfaedjjpaaGreatDoorYB
open BitVec renaming ofInt_natCast->abM,toNat_ofNat->abX
open Bool renaming and_eq_true->μ,eq_iff_iff->aa7,not_false->abk,not_true->aaF,true_and->acv
open Decidable renaming byContradiction->acO
open Go.IntKind renaming wrap->δ
open Int renaming toNat_natCast->π
open List renaming append_assoc->ν,append_nil->aac,drop_eq_getElem_cons->aaD,drop_of_length_le->aar,drop_zero->aax,eq_nil_iff_forall_not_mem->acm,eq_nil_of_length_eq_zero->aco,flatMap_cons->abo,getElem?_eq_getElem->ξ,getElem_mem->abI,length_append->ε,length_cons->aab,length_drop->aaz,length_nil->aaC,length_pos_iff->ab4,mem_append->aaj,mem_cons->υ,mem_cons_of_mem->aaa,mem_cons_self->aao,mem_map->aa6,nil_append->aaW,not_mem_nil->aaT,pairwise_cons->aav,take_of_length_le->aaw
open Nat renaming add_assoc->abJ,le_refl->me,le_trans->aaJ,mul_le_mul_right->aaG,not_lt_zero->aah,pow_le_pow_right->aa3,sub_self->acK,zero_le->aa2
set_option linter.all false
set_option maxRecDepth 8000
set_option synthInstance.maxSize 100000
set_option synthInstance.maxHeartbeats 400000
namespace Go.Proofs.Tryz
open Go.Eng Go.RowKit Go.Lib
variable{N:Nat}{n:Int}{α:Type}{l:List Int}{v:Vr}
theorem q8(n:Nat):δ .u8 (n:Int)=((n%256:Nat):Int):=by rw[IntKind.wrap_u8];omega
theorem BM{x:Int}(h:0<=x)(h':x<18446744073709551616):δ .u64 x=x:=by rw[IntKind.wrap_u64];omega
def jo(n:Int):Prop:=-9223372036854775808<=n/\n<=9223372036854775807
theorem VX(s:bw)(i:Nat):(bE s)[i]?=(s[i]?).map fun c=>(c.toNat:Int):=by unfold bE;rw[List.getElem?_map]
theorem mW(s:bw):bA (bE s)=s:=by
 unfold bA bE;rw[List.map_map]
 conv=>rhs;rw[<-List.map_id s]
 refine List.map_congr_left fun c _=>?_;show UInt8.ofNat ((c.toNat:Int)).toNat=c;rw[π];exact UInt8.ofNat_toNat
theorem vK(s t:bw):bE (s++t)=bE s++bE t:=List.map_append
theorem R0(m:Nat):qQ (m+1)=wO (qQ m):=rfl
theorem N5:∀(k z m:Nat) (a:List Int),z<128^(k+1)->z<18446744073709551616->k<m->a.length+k<1000000->
  qQ m (z:Int) a=some (a++bE (uvarint z))
 |k,z,0,a,_,_,h,_=>by omega
 |k,z,m+1,a,hz,hz2,hm,hal=>by
  rw[R0];unfold wO;rw[q8];by_cases h:128<=z
  ·obtain⟨k',rfl⟩:∃k',k=k'+1:=⟨k-1,by cases k with
    |zero=>have:128^(0+1)=128:=rfl;omega
    |succ k=>rfl⟩
   have e1:bits .or .u8 ((z%256:Nat):Int) 128=((z%128+128:Nat):Int):=by rw[Go.Lib.u8_or128_any _ (by omega) (by omega)];omega
   have e4:(z:Int)/2^7=((z/128:Nat):Int):=rfl;rw[e1,e4,aE (decide_eq_true (by omega)),aG,aB (by simp only[aab,aaC];omega),aG];rw[N5 k' (z/128) m (a++[((z%128+128:Nat):Int)]) (by have:128^(k'+1+1)=128^(k'+1)*128:=rfl;omega) (by omega) (by omega) (by simp only[ε,aab,aaC];omega),uvarint_big h,ν];refine congrArg (fun l=>some (a++l)) ?_;show _::bE (uvarint (z/128))=(((z%128+128).toUInt8.toNat:Nat):Int)::bE (uvarint (z/128));rw[show(z%128+128).toUInt8.toNat=z%128+128 by
    show(z%128+128)%256=_;omega]
  ·rw[aD (decide_eq_false (by omega)),aG,aB (by simp only[aab,aaC];omega),aG,uvarint_small (by omega)];refine congrArg (fun l=>some (a++l)) ?_;show[((z%256:Nat):Int)]=[((z.toUInt8.toNat:Nat):Int)];rw[show z.toUInt8.toNat=z%256 from rfl]
theorem Wy(N:Nat)(n:Int)(hN:20<=N)(hn:jo n):gE N n=some (bE (uvarint (zigzag n))):=by
 obtain⟨h1,h2⟩:=hn;have e1:(2:Int)^63=9223372036854775808:=rfl;have e2:(2:Int)^1=2:=rfl;have hz:zigzag n<18446744073709551616:=by unfold zigzag;split<;>omega
 have key:bits .xor .u64 (δ .u64 ((δ .u64 n)*2)) (δ .u64 (n/9223372036854775808))=((zigzag n:Nat):Int):=by
  by_cases h:0<=n
  ·have hz':zigzag n=(2*n).toNat:=by unfold zigzag;rw[if_pos h]
   rw[show n/9223372036854775808=((0:Nat):Int) by omega,BM (x:=n) h (by omega),BM (x:=n*2) (by omega) (by omega),BM (x:=((0:Nat):Int)) (by omega) (by omega),show n*2=(((2*n).toNat:Nat):Int) by omega,Go.bits_xor_u64_nat _ _ (by omega) (by omega),Nat.xor_zero,hz']
  ·have hz':zigzag n=(-2*n-1).toNat:=by unfold zigzag;rw[if_neg h]
   have w:∀x:Int,δ .u64 x=x%18446744073709551616:=fun x=>IntKind.wrap_u64 x;obtain⟨y,hy,hy2⟩:∃y:Nat,(((n%18446744073709551616)*2)%18446744073709551616:Int)=(y:Int)/\(y:Int)=18446744073709551616+2*n:=⟨(18446744073709551616+2*n).toNat,by omega,by omega⟩;rw[w,w,w,hy,show n/9223372036854775808%18446744073709551616=((18446744073709551615:Nat):Int) by omega,Go.bits_xor_u64_nat _ _ (by omega) (by omega)];have hx:y^^^18446744073709551615=18446744073709551615-y:=by
    rw[Nat.xor_comm];apply Nat.eq_of_testBit_eq;intro i;rw[Nat.testBit_xor,show 18446744073709551615-y=2^64-(y+1) by omega,Nat.testBit_two_pow_sub_succ (by omega),show(18446744073709551615:Nat)=2^64-(0+1)from rfl,Nat.testBit_two_pow_sub_succ (by omega)];by_cases hi:i<64
    ·simp[hi]
    ·have:y.testBit i=false:=Nat.testBit_lt_two_pow (Nat.lt_of_lt_of_le (show y<2^64 by omega) (aa3 (by decide) (by omega)));simp[hi,this]
   rw[hx,hz'];omega
 unfold gE;rw[e1,e2,key,N5 9 (zigzag n) N [] (by have:128^(9+1)=1180591620717411303424:=rfl;omega) hz (by omega) (by simp),aaW]
def yj(z:Nat):Int:=if z%2=0 then((z/2:Nat):Int)else-((z/2:Nat):Int)-1
def o6:Nat->Nat->bw->Int×Int×Int
 |_,_,[]=>(0,0,10)
 |k,z,c::r=>if(k=9/\1<c.toNat)\/(0<k/\c.toNat=0)then(0,0,11)else if c.toNat<128 then(yj (z+c.toNat%128*128^k),((k+1:Nat):Int),0)else o6 (k+1) (z+c.toNat%128*128^k) r
theorem Nq(n:Int)(h₀:0<=n)(h₁:n<2^64):IntKind.u64.wrap n=n:=by rw[IntKind.wrap_u64];omega
theorem Uv(x b:Nat)(hx:x<9223372036854775808)(hb:b<2):bits .xor .i64 (x:Int) (-(b:Int))=if b=0 then(x:Int)else-(x:Int)-1:=by
 obtain rfl|rfl:b=0\/b=1:=by omega
 ·simp only[bits,if_pos];rw[show(-((0:Nat):Int))=((0:Nat):Int)from rfl,abM,abM,BitVec.toNat_xor,abX,abX];rw[show(0%2^IntKind.i64.bits)=0 from rfl,Nat.xor_zero,IntKind.wrap_i64,show IntKind.i64.bits=64 from rfl];omega
 ·rw[if_neg (by decide)];simp only[bits];have hone:BitVec.ofInt IntKind.i64.bits (-((1:Nat):Int))=BitVec.allOnes IntKind.i64.bits:=by decide
  rw[hone,abM,BitVec.xor_allOnes,BitVec.toNat_not,abX,IntKind.wrap_i64,show IntKind.i64.bits=64 from rfl];omega
theorem F8(z k c:Nat)(hz:z<128^k)(hk:k<=9)(hc:c<256)(h9:k=9->c<=1):
  bits .or .u64 (z:Int) (δ .u64 ((δ .u64 ((bits .and .u8 (c:Int) 127)))*2^(7*(k:Int)).toNat))=((z+c%128*128^k:Nat):Int)/\z+c%128*128^k<18446744073709551616/\(k<9->z+c%128*128^k<128^(k+1)):=by
 have p9:128^k<=9223372036854775808:=aaJ (aa3 (by decide) hk) (by decide);have hm:c%128<128:=Nat.mod_lt _ (by decide);have hb:z+c%128*128^k<18446744073709551616/\(k<9->z+c%128*128^k<128^(k+1)):=by
  have e:128^(k+1)=128^k*128:=rfl;have h1:c%128*128^k<=127*128^k:=aaG _ (by omega);refine⟨?_,fun _=>by omega⟩;by_cases h:k=9
  ·subst h;have h2:c%128*128^9<=1*128^9:=aaG _ (by have:=h9 rfl;omega);omega
  ·have p8:128^k<=72057594037927936:=aaJ (aa3 (by decide) (show k<=8 by omega)) (by decide);omega
 refine⟨?_,hb⟩;have e1:bits .and .u8 (c:Int) 127=((c%128:Nat):Int):=by have:=bits_mask .u8 8 (by decide) wraps_u8 7 (by decide) (c:Int) (by omega) (by omega);rw[show((2:Int)^7-1)=127 from rfl]at this;rw[this];omega
 have e2:(2:Int)^(7*(k:Int)).toNat=((128^k:Nat):Int):=by rw[show(7*(k:Int)).toNat=7*k by omega,Int.pow_mul];simp
 have hx:c%128*128^k<18446744073709551616:=by omega
 rw[e1,BM (x:=((c%128:Nat):Int)) (by omega) (by omega),e2,<-Int.natCast_mul,BM (x:=((c%128*128^k:Nat):Int)) (by omega) (by omega),(bits_nat .u64 64 (by decide) Nq _ _ (by omega) (by omega)).2];congr 1;have e3:128^k=2^(7*k):=by rw[Nat.pow_mul]
 rw[e3]at hz|-;have:=Nat.shiftLeft_add_eq_or_of_lt hz (c%128);rw[Nat.shiftLeft_eq]at this;rw[Nat.or_comm,<-this,Nat.add_comm]
def wc:Nat->Nat->bw->uw⊕TM
 |_,z,[]=>.inr ((z:Int),0)
 |k,z,c::r=>if(k=9/\1<c.toNat)\/(0<k/\c.toNat=0)then .inl (0,(0,11))else if c.toNat<128 then .inr (((z+c.toNat%128*128^k:Nat):Int),((k+1:Nat):Int))else wc (k+1) (z+c.toNat%128*128^k) r
def JF:uw⊕TM->Int×Int×Int
 |.inl r=>r
 |.inr v=>if v.2=0 then(0,0,10)else(yj v.1.toNat,v.2,0)
theorem P5:∀(r:bw) (k z:Nat),JF (wc k z r)=o6 k z r
 |[],k,z=>rfl
 |c::r,k,z=>by
  rw[wc,o6];by_cases h:(k=9/\1<c.toNat)\/(0<k/\c.toNat=0)
  ·rw[if_pos h,if_pos h];rfl
  ·rw[if_neg h,if_neg h];by_cases h2:c.toNat<128
   ·rw[if_pos h2,if_pos h2];unfold JF;dsimp only;rw[if_neg (by omega),π]
   ·rw[if_neg h2,if_neg h2];exact P5 r _ _
theorem M9:∀(r:bw) (k z:Nat) (v:Int×Int),k<=9->z<128^k->wc k z r=.inr v->∃y:Nat,v.1=(y:Int)/\y<18446744073709551616/\∃u:Nat,v.2=(u:Int)
 |[],k,z,v,hk,hz,h=>by
  cases h;have p9:128^k<=9223372036854775808:=aaJ (aa3 (by decide) hk) (by decide);exact⟨z,rfl,by omega,0,rfl⟩
 |c::r,k,z,v,hk,hz,h=>by
  rw[wc]at h;have hcl:=c.toNat_lt;by_cases hb:(k=9/\1<c.toNat)\/(0<k/\c.toNat=0)
  ·rw[if_pos hb]at h;cases h
  ·rw[if_neg hb]at h;obtain⟨_,h2,h3⟩:=F8 z k c.toNat hz hk (by omega) (by omega);by_cases hh:c.toNat<128
   ·rw[if_pos hh]at h;cases h;exact⟨_,rfl,h2,k+1,rfl⟩
   ·rw[if_neg hh]at h;exact M9 r (k+1) _ v (by omega) (h3 (by omega)) h
theorem Lt(m:Nat):jF (m+1)=lX (jF m):=rfl
theorem Oo(s:bw):∀(r:bw) (k z m:Nat),s.drop k=r->k<=9->z<128^k->10<m+k->jF m (z:Int) 0 (bE s) (((bE s).length:Nat):Int) (k:Int)=some (wc k z r)
 |r,k,z,0,_,_,_,h=>by omega
 |[],k,z,m+1,hr,hk,hz,hm=>by
  have:s.length<=k:=by have:=congrArg List.length hr;rw[aaz,aaC]at this;omega
  rw[Lt];unfold lX;rw[iP,aD (decide_eq_false (by omega))];rfl
 |c::r,k,z,m+1,hr,hk,hz,hm=>by
  have hlen:k<s.length:=by have:=congrArg List.length hr;rw[aaz,aab]at this;omega
  have hc:s[k]=c:=by have:=congrArg (·[0]?) hr;simp only[List.getElem?_drop,Nat.add_zero,List.getElem?_cons_zero]at this;rw[ξ hlen]at this;exact Option.some.inj this
  have hr':s.drop (k+1)=r:=by have:=congrArg List.tail hr;rw[List.tail_drop]at this;exact this
  have hcl:=c.toNat_lt;have hget:(bE s)[k]?=some (c.toNat:Int):=by rw[VX,ξ hlen,hc];rfl
  have jk:=fun z' h1 h2 h3=>Oo s r (k+1) z' m hr' h1 h2 h3;rw[Lt,wc];unfold lX;rw[iP]at jk|-;rw[aE (decide_eq_true (by omega)),cQ hget];generalize hcn:c.toNat=d at*;by_cases hbad:(k=9/\1<d)\/(0<k/\d=0)
  ·rw[if_pos hbad];by_cases h9:k=9
   ·subst h9;rw[show(((9:Nat):Int)==9)=true from rfl,mU,aC];dsimp only;by_cases h1:1<d
    ·rw[aE (decide_eq_true (by omega)),aC];rfl
    ·have h0:d=0:=by omega
     subst h0;rfl
   ·have hd:0<k/\d=0:=by omega
    rw[show((k:Int)==9)=false by rw[beq_eq_false_iff_ne];omega,dB,aC];dsimp only;rw[dB,aE (decide_eq_true (by omega)),aC];dsimp only;rw[show((d:Int)==0)=true by rw[beq_iff_eq];omega,mU];rfl
  ·rw[if_neg hbad];obtain⟨e1,e2,e3⟩:=F8 z k d hz hk (by omega) (by omega);have fin:∀x:Bool,x=false->(bj (some ((z:Int),(0:Int),(k:Int),(d:Int),bE s,(s.length:Int),(k:Int),x)) fun w10=>bk (w10.2.2.2.2.2.2.2) (zJ (some ((0,(0,11))))) (ck .i64 ((7*w10.2.2.1)) (bb ((0<=(7*w10.2.2.1))) (bb (((7*w10.2.2.1)<=(((IntKind.bits .u64):Nat):Int))) (bk (decide (w10.2.2.2.1<128)) (ck .i64 ((w10.2.2.1+1)) (some (.inr ((bits .or .u64 w10.1 (δ .u64 ((δ .u64 (bits .and .u8 w10.2.2.2.1 127))*(2^(7*w10.2.2.1).toNat)))),(w10.2.2.1+1))))) (ck .i64 ((w10.2.2.2.2.2.2.1+1)) (jF m (bits .or .u64 w10.1 (δ .u64 ((δ .u64 (bits .and .u8 w10.2.2.2.1 127))*(2^(7*w10.2.2.1).toNat)))) w10.2.1 w10.2.2.2.2.1 w10.2.2.2.2.2.1 (w10.2.2.2.2.2.2.1+1))))))))=some (if d<128 then .inr (((z+d%128*128^k:Nat):Int),((k+1:Nat):Int))else wc (k+1) (z+d%128*128^k) r):=by
    intro x hx;subst hx;rw[aC];dsimp only;rw[dB,aI (by omega) (by omega),aB (by omega),aB (by show _<=((64:Nat):Int);omega),e1];by_cases hh:d<128
    ·rw[aE (decide_eq_true (by omega)),aI (by omega) (by omega),if_pos hh,show(k:Int)+1=((k+1:Nat):Int) by omega]
    ·rw[aD (decide_eq_false (by omega)),aI (by omega) (by omega),if_neg hh,show(k:Int)+1=((k+1:Nat):Int) by omega];exact jk _ (by omega) (e3 (by omega)) (by omega)
   by_cases h9:k=9
   ·rw[show((k:Int)==9)=true by rw[beq_iff_eq];omega,mU,aC];dsimp only;rw[aD (decide_eq_false (by omega)),aE (decide_eq_true (by omega))];exact fin _ (by rw[beq_eq_false_iff_ne];omega)
   ·rw[show((k:Int)==9)=false by rw[beq_eq_false_iff_ne];omega,dB,aC];dsimp only;rw[dB];by_cases h0:0<k
    ·rw[aE (decide_eq_true (by omega))];exact fin _ (by rw[beq_eq_false_iff_ne];omega)
    ·rw[aD (decide_eq_false (by omega))];exact fin _ rfl
def gi(s:bw):Int×Int×Int:=o6 0 0 s
theorem T4(hN:11<=N)(s:bw):gT N (bE s)=some (gi s):=by
 unfold gT;have h:=Oo s s 0 0 N rfl (by omega) (by decide) (by omega);rw[show(((0:Nat):Int))=0 from rfl]at h;rw[h];unfold gi;rw[<-P5];cases e:wc 0 0 s with
 |inl r=>rfl
 |inr v=>
  obtain⟨y,h1,h2,u,h3⟩:=M9 s 0 0 v (by omega) (by decide) e;obtain⟨a,b⟩:=v;dsimp only at h1 h3;subst h1 h3;rw[bTv];dsimp only[JF];by_cases hu:u=0
  ·subst hu;rfl
  ·have e5:bits .and .u64 (y:Int) 1=((y%2:Nat):Int):=by have:=bits_mask .u64 64 (by decide) Nq 1 (by decide) (y:Int) (by omega) (by omega);rw[show((2:Int)^1-1)=1 from rfl]at this;rw[this];omega
   have e4:(y:Int)/2^1=((y/2:Nat):Int):=rfl;rw[aD (by rw[beq_eq_false_iff_ne];omega),e5,e4,Dz (n:=((y%2:Nat):Int)) (by omega) (by omega),Dz (n:=((y/2:Nat):Int)) (by omega) (by omega),aI (by omega) (by omega),Uv _ _ (by omega) (by omega),if_neg (show¬((u:Int)=0) by omega),π];rfl
set_option maxRecDepth 8000
set_option synthInstance.maxSize 100000
set_option synthInstance.maxHeartbeats 400000
theorem bJ6{z:Nat}(h:z<18446744073709551616):jo (yj z):=by unfold yj jo;split<;>omega
theorem N7:∀(s:bw) (k z:Nat),k<=9->z<128^k->(((o6 k z s).2.2=0/\∃u:Nat,(o6 k z s).2.1=(u:Int)/\k+1<=u/\u<=k+s.length/\u<=10/\jo (o6 k z s).1)\/((o6 k z s).1=0/\(o6 k z s).2.1=0/\((o6 k z s).2.2=10\/(o6 k z s).2.2=11)))
 |[],k,z,_,_=>.inr ⟨rfl,rfl,.inl rfl⟩
 |c::s,k,z,hk,hz=>by
  rw[o6];by_cases hb:(k=9/\1<c.toNat)\/(0<k/\c.toNat=0)
  ·rw[if_pos hb];exact .inr ⟨rfl,rfl,.inr rfl⟩
  ·rw[if_neg hb];have hcl:=c.toNat_lt;obtain⟨_,h2,h3⟩:=F8 z k c.toNat hz hk (by omega) (by omega);by_cases hh:c.toNat<128
   ·rw[if_pos hh];exact .inl ⟨rfl,k+1,rfl,by omega,by simp only[aab];omega,by omega,bJ6 h2⟩
   ·rw[if_neg hh];have hk9:k<9:=by omega
    rcases N7 s (k+1) _ (by omega) (h3 hk9)with⟨e,u,h1,h2,h3,h4,h5⟩|h
    ·exact .inl ⟨e,u,h1,by omega,by simp only[aab];omega,h4,h5⟩
    ·exact .inr h
theorem YI(s:bw):((gi s).2.2=0/\∃u:Nat,(gi s).2.1=(u:Int)/\1<=u/\u<=s.length/\u<=10/\jo (gi s).1)\/((gi s).1=0/\(gi s).2.1=0/\((gi s).2.2=10\/(gi s).2.2=11)):=by
 rcases N7 s 0 0 (by omega) (by decide)with⟨e,u,h1,h2,h3,h4,h5⟩|h
 ·exact .inl ⟨e,u,h1,by omega,by omega,h4,h5⟩
 ·exact .inr h
def vJ(s:bw):Int×Int×Int:=
 if(gi s).2.2≠0 then(0,0,(gi s).2.2)else if(gi s).1<0 then(0,0,11)else if(gi s).1>(s.length:Int)-(gi s).2.1 then(0,0,10)else((gi s).1,(gi s).2.1,0)
theorem To{a b:Int}(h:a=b):(a !=b)=false:=by rw[bne_eq_false_iff_eq];exact h
theorem bTm{a b:Int}(h:a≠b):(a !=b)=true:=by rw[bne_iff_ne];exact h
theorem length_eq(hN:11<=N)(s:bw)(hs:s.length<=1000000):jG N (bE s) 1=some (vJ s):=by
 unfold jG vJ;rw[T4 hN,aC,iP];rcases YI s with⟨e,u,h1,h2,h3,h4,h5⟩|⟨h1,h2,h3⟩
 ·obtain⟨b1,b2⟩:=h5;rw[To e,dB,if_neg (by rw[e];simp),h1,Int.tdiv_one];by_cases hn:(gi s).1<0
  ·rw[aE (decide_eq_true hn),if_pos hn]
  ·rw[aD (decide_eq_false hn),if_neg hn,aI (by omega) (by omega),aB (by decide),aI (by omega) (by omega)];by_cases hg:(gi s).1>(s.length:Int)-(u:Int)
   ·rw[aE (decide_eq_true hg),if_pos hg]
   ·rw[aD (decide_eq_false hg),if_neg hg]
 ·have hne:(gi s).2.2≠0:=by omega
  rw[bTm hne,mU,if_pos hne]
def AL:Nat->bw->Int->List Int->List Int×Int×Int
 |0,_,a,acc=>(acc,a,0)
 |n+1,r,a,acc=>if(gi r).2.2≠0 then([],0,(gi r).2.2)else AL n (r.drop (gi r).2.1.toNat) (a+(gi r).2.1) (acc++[(gi r).1])
def xE(s:bw):List Int×Int×Int:=if(vJ s).2.2≠0 then([],0,(vJ s).2.2)else AL (vJ s).1.toNat (s.drop (vJ s).2.1.toNat) (vJ s).2.1 []
def za(s:bw):bw×Int×Int:=if(vJ s).2.2≠0 then([],0,(vJ s).2.2)else((s.drop (vJ s).2.1.toNat).take (vJ s).1.toNat,(vJ s).2.1+(vJ s).1,0)
def AS:Nat->bw->Int->List bw->List bw×Int×Int
 |0,_,a,acc=>(acc,a,0)
 |n+1,r,a,acc=>if(za r).2.2≠0 then([],0,(za r).2.2)else AS n (r.drop (za r).2.1.toNat) (a+(za r).2.1) (acc++[(za r).1])
def CY(s:bw):List bw×Int×Int:=if(vJ s).2.2≠0 then([],0,(vJ s).2.2)else AS (vJ s).1.toNat (s.drop (vJ s).2.1.toNat) (vJ s).2.1 []
def hd(s:bw)(k:Int)(c:Nat)(more:Bool):Option (List Int×List bw):=
 if(xE s).2.2=0/\(xE s).1.length=c/\(xE s).1.getD 0 0=k then
  if more=true then
   if(CY (s.drop (xE s).2.1.toNat)).2.2=0/\(xE s).2.1+(CY (s.drop (xE s).2.1.toNat)).2.1=(s.length:Int)then some ((xE s).1,(CY (s.drop (xE s).2.1.toNat)).1)else none
  else if(xE s).2.1=(s.length:Int)then some ((xE s).1,[])else none
 else none
def iv(n:Int):bw:=uvarint (zigzag n)
def ou(l:List Int):bw:=iv (l.length:Int)++l.flatMap iv
def rV(s:bw):bw:=iv (s.length:Int)++s
def qt(l:List bw):bw:=iv (l.length:Int)++l.flatMap rV
theorem K8(h:jo n):zigzag n<18446744073709551616:=by obtain⟨h1,h2⟩:=h;unfold zigzag;split<;>omega
theorem SN(n:Int):yj (zigzag n)=n:=by unfold yj zigzag;split<;>split<;>omega
theorem kN(h:jo n):1<=(iv n).length/\(iv n).length<=10:=⟨uvarint_pos _,uvarint_length64 (K8 h)⟩
theorem V9(r:bw):∀(x k z:Nat),z+x*128^k<18446744073709551616->(0<x\/k=0)->o6 k z (uvarint x++r)=(yj (z+x*128^k),((k+(uvarint x).length:Nat):Int),0):=by
 intro x
 induction x using Nat.strongRecOn with
 |_ x ih=>
  intro k z hb h0;have h9:k=9->x<=1:=fun e=>by subst e;have:128^9=9223372036854775808:=rfl;rw[this]at hb;omega
  by_cases hx:x<128
  ·rw[uvarint_small hx,List.singleton_append,o6];have hc:x.toUInt8.toNat=x:=by show x%256=x;omega
   rw[hc,if_neg (by omega),if_pos hx,Nat.mod_eq_of_lt hx];rfl
  ·rw[uvarint_big (by omega),List.cons_append,o6];have hc:(x%128+128).toUInt8.toNat=x%128+128:=by show(x%128+128)%256=_;omega
   have e:z+x%128*128^k+x/128*128^(k+1)=z+x*128^k:=by
    have h1:x/128*128^(k+1)=(x/128*128)*128^k:=by rw[Nat.pow_succ,Nat.mul_comm (128^k) 128,Nat.mul_assoc]
    rw[h1,abJ,<-Nat.add_mul];congr 2;omega
   rw[hc,if_neg (by omega),if_neg (by omega),show(x%128+128)%128=x%128 by omega,ih (x/128) (by omega) (k+1) _ (by rw[e];exact hb) (.inl (by omega)),e,aab];have:k+1+(uvarint (x/128)).length=k+((uvarint (x/128)).length+1):=by omega
   rw[this]
theorem HA(h:jo n)(r:bw):gi (iv n++r)=(n,((iv n).length:Int),0):=by unfold gi iv;rw[V9 r (zigzag n) 0 0 (by have:=K8 h;omega) (.inr rfl),Nat.zero_add,Nat.pow_zero,Nat.mul_one,SN,Nat.zero_add]
theorem lZ{n:Nat}(h:n<=1000000):jo (n:Int):=⟨by omega,by omega⟩
theorem GV{n:Nat}(h:n<=1000000)(r:bw)(hr:n<=r.length):vJ (iv (n:Int)++r)=((n:Int),((iv (n:Int)).length:Int),0):=by unfold vJ;rw[HA (lZ h)];rw[if_neg (by simp),if_neg (by simp only;omega),if_neg (by simp only[ε];omega)]
theorem Ja{α:Type}(f:α->bw):∀(l:List α),(∀x∈l,1<=(f x).length)->l.length<=(l.flatMap f).length
 |[],_=>me _
 |x::l,h=>by rw[abo,ε,aab];have:=Ja f l (fun y hy=>h y (by simp[hy]));have:=h x (by simp);omega
theorem vA(a b:List α):(a++b).drop a.length=b:=by rw[List.drop_append,aar (me _),aaW,acK,aax]
theorem XI(a b:List α):(a++b).take a.length=a:=by rw[List.take_append,aaw (me _),acK,List.take_zero,aac]
theorem LX(r:bw):∀(l:List Int) (a:Nat) (acc:List Int),(∀x∈l,jo x)->AL l.length (l.flatMap iv++r) (a:Int) acc=(acc++l,((a+(l.flatMap iv).length:Nat):Int),0)
 |[],a,acc,_=>by rw[aac];rfl
 |x::l,a,acc,h=>by rw[abo,ν,aab,AL,HA (h x (by simp))];rw[if_neg (by simp)];show AL l.length ((iv x++(l.flatMap iv++r)).drop ((iv x).length:Int).toNat) ((a:Int)+((iv x).length:Int)) (acc++[x])=_;rw[π,vA,show((a:Int)+((iv x).length:Int))=((a+(iv x).length:Nat):Int) by omega,LX r l _ _ (fun y hy=>h y (by simp[hy])),ν,ε,abJ];rfl
theorem JU(h:∀x∈l,jo x)(hl:l.length<=1000000)(r:bw):xE (ou l++r)=(l,((ou l).length:Int),0):=by unfold xE ou;have:=Ja iv l (fun x hx=>(kN (h x hx)).1);rw[ν,GV hl _ (by rw[ε];omega),if_neg (by simp)];show AL (l.length:Int).toNat ((iv (l.length:Int)++(l.flatMap iv++r)).drop ((iv (l.length:Int)).length:Int).toNat) ((iv (l.length:Int)).length:Int) []=_;rw[π,π,vA,LX r l _ _ h,aaW,ε]
theorem aXt{s:bw}(h:s.length<=1000000)(r:bw):za (rV s++r)=(s,((rV s).length:Int),0):=by unfold za rV;rw[ν,GV h _ (by rw[ε];omega),if_neg (by simp)];show(((iv (s.length:Int)++(s++r)).drop ((iv (s.length:Int)).length:Int).toNat).take (s.length:Int).toNat,_,_)=_;rw[π,π,vA,XI,ε];refine congrArg (fun x=>(s,x,(0:Int))) ?_;show((iv (s.length:Int)).length:Int)+(s.length:Int)=_;omega
theorem UI{s:bw}(h:s.length<=1000000):1<=(rV s).length:=by unfold rV;have:=(kN (lZ h)).1;rw[ε];omega
theorem Qp(r:bw):∀(l:List bw) (a:Nat) (acc:List bw),(∀x∈l,x.length<=1000000)->AS l.length (l.flatMap rV++r) (a:Int) acc=(acc++l,((a+(l.flatMap rV).length:Nat):Int),0)
 |[],a,acc,_=>by rw[aac];rfl
 |x::l,a,acc,h=>by rw[abo,ν,aab,AS,aXt (h x (by simp))];rw[if_neg (by simp)];show AS l.length ((rV x++(l.flatMap rV++r)).drop ((rV x).length:Int).toNat) ((a:Int)+((rV x).length:Int)) (acc++[x])=_;rw[π,vA,show((a:Int)+((rV x).length:Int))=((a+(rV x).length:Nat):Int) by omega,Qp r l _ _ (fun y hy=>h y (by simp[hy])),ν,ε,abJ];rfl
theorem ZP{l:List bw}(h:∀x∈l,x.length<=1000000)(hl:l.length<=1000000)(r:bw):CY (qt l++r)=(l,((qt l).length:Int),0):=by unfold CY qt;have:=Ja rV l (fun x hx=>UI (h x hx));rw[ν,GV hl _ (by rw[ε];omega),if_neg (by simp)];show AS (l.length:Int).toNat ((iv (l.length:Int)++(l.flatMap rV++r)).drop ((iv (l.length:Int)).length:Int).toNat) ((iv (l.length:Int)).length:Int) []=_;rw[π,π,vA,Qp r l _ _ h,aaW,ε]
theorem Um(h:∀x∈l,jo x)(hl:l.length<=1000000)(k:Int)(c:Nat)(h1:l.length=c)(h2:l.getD 0 0=k):hd (ou l) k c false=some (l,[]):=by unfold hd;have:=JU h hl [];rw[aac]at this;rw[this,if_pos ⟨rfl,h1,h2⟩,if_neg (by decide),if_pos rfl]
theorem WE{p:List bw}(h:∀x∈l,jo x)(hl:l.length<=1000000)(hp:∀x∈p,x.length<=1000000)(hpl:p.length<=1000000)(k:Int)(c:Nat)(h1:l.length=c)(h2:l.getD 0 0=k):hd (ou l++qt p) k c true=some (l,p):=by
 unfold hd;rw[JU h hl (qt p),if_pos ⟨rfl,h1,h2⟩,if_pos rfl];have e:(ou l++qt p).drop ((l,((ou l).length:Int),(0:Int)).2.1).toNat=qt p:=by show(ou l++qt p).drop ((ou l).length:Int).toNat=qt p;rw[π,vA]
 rw[e];have:=ZP hp hpl [];rw[aac]at this;rw[this,if_pos ⟨rfl,by simp only[ε];omega⟩]
theorem Ww(h:∀x∈l,jo x)(hl:l.length<=1000000)(r:bw)(k:Int)(c:Nat)(more:Bool)(h1:l.length≠c):hd (ou l++r) k c more=none:=by unfold hd;rw[JU h hl r,if_neg (fun q=>h1 q.2.1)]
abbrev Rd:=Int×(Int×(Int×uw))
variable{r:Rd}
abbrev Pt:=Int×TL
theorem PX(N m:Nat):jW N (m+1)=jL N (jW N m):=rfl
theorem KL(N m:Nat):gQ N (m+1)=gL N (gQ N m):=rfl
theorem PN{l:List α}{i:Nat}(h:i<l.length):l.drop i=l[i]::l.drop (i+1):=aaD h
theorem zT(hN:20<=N)(hn:jo n):gE N n=some (bE (iv n)):=Wy N n hN hn
theorem MJ{N:Nat}(hN:20<=N)(l:List Int)(h:∀x∈l,jo x)(hl:l.length<=100000):∀(k i m:Nat) (acc:List Int),i+k=l.length->k<m->acc.length<=10+10*i->jW N m l ((l.length:Nat):Int) (i:Int) acc=some (acc++bE ((l.drop i).flatMap iv))
 |k,i,0,acc,_,h,_=>by omega
 |0,i,m+1,acc,hi,_,_=>by
  rw[PX];unfold jL;rw[aD (decide_eq_false (by omega)),aG,aar (by omega)];exact congrArg some (aac acc).symm
 |k+1,i,m+1,acc,hi,hm,ha=>by
  have hlt:i<l.length:=by omega
  have hx:=h _ (abI hlt);have hu:=kN hx;rw[PX];unfold jL;rw[aE (decide_eq_true (by omega)),cQ (ξ hlt),zT hN hx,aC,aG,aG,aB (by rw[iP];omega),aI (by omega) (by omega),aG,show((i:Int)+1)=((i+1:Nat):Int) by omega,MJ hN l h hl k (i+1) m _ (by omega) (by omega) (by rw[ε,iP];omega),PN hlt,abo,vK,ν]
theorem M6(hN:20<=N)(l:List Int)(h:∀x∈l,jo x)(hl:l.length<N)(hb:l.length<=100000):iS N l=some (ou l):=by unfold iS zC qG;rw[zT hN (lZ (by omega)),aC,aG];have hu:=kN (lZ (show l.length<=1000000 by omega));have:=MJ hN l h hb l.length 0 N (bE (iv (l.length:Int))) (by omega) hl (by rw[iP];omega);rw[show(((0:Nat):Int))=0 from rfl]at this;rw[this,aC,aG,aC,aG,aax,<-vK,mW];rfl
theorem VB(hN:20<=N)(s:bw)(hs:s.length<=1000000):nL N s=some (bE (rV s)):=by unfold nL;have hu:=kN (lZ hs);rw[zT hN (lZ hs),aC,aG,aB (by rw[iP,iP];omega),aG,<-vK];rfl
theorem KY{N:Nat}(hN:20<=N)(l:List bw)(h:∀x∈l,x.length<=100000)(hl:l.length<=100000):∀(k i m:Nat) (acc:List Int),i+k=l.length->k<m->acc.length<=10+200000*i->gQ N m l ((l.length:Nat):Int) (i:Int) acc=some (acc++bE ((l.drop i).flatMap rV))
 |k,i,0,acc,_,h,_=>by omega
 |0,i,m+1,acc,hi,_,_=>by
  rw[KL];unfold gL;rw[aD (decide_eq_false (by omega)),aG,aar (by omega)];exact congrArg some (aac acc).symm
 |k+1,i,m+1,acc,hi,hm,ha=>by
  have hlt:i<l.length:=by omega
  have hx:=h _ (abI hlt);have hu:(rV l[i]).length<=200000:=by unfold rV;have:=(kN (lZ (show(l[i]).length<=1000000 by omega))).2;rw[ε];omega
  rw[KL];unfold gL;rw[aE (decide_eq_true (by omega)),cQ (ξ hlt),VB hN _ (by omega),aC,aG,aG,aB (by rw[iP];omega),aI (by omega) (by omega),aG,show((i:Int)+1)=((i+1:Nat):Int) by omega,KY hN l h hl k (i+1) m _ (by omega) (by omega) (by rw[ε,iP];omega),PN hlt,abo,vK,ν]
theorem RS(hN:20<=N)(l:List bw)(h:∀x∈l,x.length<=100000)(hl:l.length<N)(hb:l.length<=100000):kH N l=some (bE (qt l)):=by unfold kH mT;rw[zT hN (lZ (by omega)),aC,aG];have hu:=kN (lZ (show l.length<=1000000 by omega));have:=KY hN l h hb l.length 0 N (bE (iv (l.length:Int))) (by omega) hl (by rw[iP];omega);rw[show(((0:Nat):Int))=0 from rfl]at this;rw[this,aC,aG,aax,<-vK];rfl
def rl(r:Rd):List Int:=[1,r.1,r.2.1,r.2.2.1,r.2.2.2.1,r.2.2.2.2.1,r.2.2.2.2.2]
def yJ(r:Rd):bw:=ou (rl r)
def tv(r:Rd):Prop:=∀x∈rl r,jo x
theorem PU(hN:20<=N)(h:tv r):gC N r=some (yJ r):=by unfold gC;rw[show[1,r.1,r.2.1,r.2.2.1,r.2.2.2.1,r.2.2.2.2.1,r.2.2.2.2.2]=rl r from rfl,M6 hN _ h (by show 7<N;omega) (by show 7<=_;omega),aC];rfl
def D7(s:bw):Rd×Int:=
 match hd s 1 7 false with
 |none=>((0,(0,(0,(0,(0,0))))),11)
 |some v=>((v.1.getD 1 0,(v.1.getD 2 0,(v.1.getD 3 0,(v.1.getD 4 0,(v.1.getD 5 0,v.1.getD 6 0))))),0)
theorem HZ(h:tv r):D7 (yJ r)=(r,0):=by unfold D7 yJ;rw[Um h (by show 7<=_;omega) 1 7 rfl rfl];rfl
theorem Vz{s:Rd}(h:tv r)(h':tv s)(e:yJ r=yJ s):r=s:=by have:=HZ h;rw[e,HZ h']at this;exact(congrArg Prod.fst this).symm
def wz(b:Bool):Int:=if b then 1 else 0
def prt(p:Pt):List bw:=[iv p.1,iv (wz p.2.1),p.2.2.1,p.2.2.2]
def vl(v:Vr):List Int:=[2,v.1,v.2.1,v.2.2.1,v.2.2.2.1,v.2.2.2.2.1,v.2.2.2.2.2.1,v.2.2.2.2.2.2.1]
abbrev vp(v:Vr):List Pt:=v.2.2.2.2.2.2.2
def uD(v:Vr):bw:=ou (vl v)++qt ((vp v).flatMap prt)
def Rh(l:List Pt):Prop:=∀p∈l,jo p.1/\p.2.2.1.length<=50000/\p.2.2.2.length<=50000
def rq(v:Vr):Prop:=(∀x∈vl v,jo x)/\(vp v).length<=1000/\Rh (vp v)
theorem I7:jo 0/\jo 1:=⟨⟨by decide,by decide⟩,⟨by decide,by decide⟩⟩
theorem Ny(b:Bool):jo (wz b):=by cases b<;>exact⟨by decide,by decide⟩
theorem wT(l:List Pt):(l.flatMap prt).length=4*l.length:=by
 induction l with
 |nil=>rfl
 |cons x l ih=>rw[abo,ε,ih,aab];show 4+_=_;omega
theorem Ol{l:List Pt}(h:Rh l):∀x∈l.flatMap prt,x.length<=50000:=fun x hx=>by
 obtain⟨p,hp,hx⟩:=List.mem_flatMap.1 hx;obtain⟨h1,h2,h3⟩:=h p hp;unfold prt at hx;simp only[υ,aaT,or_false]at hx;rcases hx with rfl|rfl|rfl|rfl
 ·have:=(kN h1).2;omega
 ·have:=(kN (Ny p.2.1)).2;omega
 ·exact h2
 ·exact h3
theorem Tk(l:List α)(i:Nat)(h:i<l.length):l.take (i+1)=l.take i++[l[i]]:=by rw[List.take_add_one,ξ h];rfl
theorem OT(N m:Nat):kM N (m+1)=kR N (kM N m):=rfl
theorem Oj{k:Nat}:∀l:List bw,k<=1000000->(∀x∈l,x.length<=k)->(l.flatMap rV).length<=(k+10)*l.length
 |[],_,_=>me _
 |x::l,hk,h=>by
  have h1:=Oj l hk (fun y hy=>h y (by simp[hy]));have h2:=h x (by simp);have h3:=(kN (lZ (show x.length<=1000000 by omega))).2;have h4:(rV x).length<=k+10:=by unfold rV;rw[ε];omega
  rw[abo,ε,aab,Nat.mul_succ];omega
theorem Nj:∀l:List Int,(∀x∈l,jo x)->(l.flatMap iv).length<=10*l.length
 |[],_=>me _
 |x::l,h=>by have h1:=Nj l (fun y hy=>h y (by simp[hy]));have h2:=(kN (h x (by simp))).2;rw[abo,ε,aab];omega
theorem W6(h:∀x∈l,jo x)(hb:l.length<=1000000):(ou l).length<=10*l.length+10:=by unfold ou;have:=(kN (lZ hb)).2;have:=Nj l h;rw[ε];omega
theorem XM{l:List bw}{k:Nat}(hk:k<=1000000)(h:∀x∈l,x.length<=k)(hb:l.length<=1000000):(qt l).length<=(k+10)*l.length+10:=by unfold qt;have:=(kN (lZ hb)).2;have:=Oj l hk h;rw[ε];omega
theorem OO{N:Nat}(hN:20<=N)(v:Vr)(hv:rq v)(hl:4*(vp v).length<N):∀(k i m:Nat),i+k=(vp v).length->k<m->kM N m (vp v) (((vp v).length:Nat):Int) (i:Int) v.1 v.2.1 v.2.2.1 v.2.2.2.1 v.2.2.2.2.1 v.2.2.2.2.2.1 v.2.2.2.2.2.2.1 (vp v) (((vp v).take i).flatMap prt)=some (uD v)
 |k,i,0,_,h=>by omega
 |0,i,m+1,hi,_=>by
  obtain⟨h1,h2,h3⟩:=hv;rw[OT];unfold kR;rw[aD (decide_eq_false (by omega)),aaw (by omega)];have e:=M6 hN (vl v) h1 (by show 8<N;omega) (by show 8<=_;omega);show bj (iS N (vl v)) _=_;have hs:=Ol h3;rw[e,aC,aG,RS hN _ (fun x hx=>by have:=hs x hx;omega) (by rw[wT];omega) (by rw[wT];omega),aC,aG,mW];refine aB ?_;have a1:=W6 h1 (by show 8<=_;omega);have a2:=XM (by omega) hs (by rw[wT];omega);have h9:(vl v).length=8:=rfl;rw[wT]at a2;have a3:(50000+10)*(4*(vp v).length)<=50010*4000:=Nat.mul_le_mul_left _ (by omega);omega
 |k+1,i,m+1,hi,hm=>by
  have hlt:i<(vp v).length:=by omega
  obtain⟨h1,h2,h3⟩:=hv;obtain⟨g1,g2,g3⟩:=h3 _ (abI hlt);have hlen:(((vp v).take i).flatMap prt).length<=4000:=by rw[wT,List.length_take];omega
  have ih:=OO hN v ⟨h1,h2,h3⟩ hl k (i+1) m (by omega) (by omega);rw[Tk _ _ hlt,List.flatMap_append]at ih;have e:([(vp v)[i]]:List Pt).flatMap prt=[iv (vp v)[i].1,iv (wz (vp v)[i].2.1),(vp v)[i].2.2.1,(vp v)[i].2.2.2]:=by rw[abo,List.flatMap_nil,aac];rfl
  rw[e]at ih;rw[OT];unfold kR;rw[aE (decide_eq_true (by omega)),cQ (ξ hlt)];generalize(vp v)[i]=p at*;obtain⟨st,ng,a,b⟩:=p;dsimp only at*;cases ng with
  |true=>
   rw[mU,aG,aC];dsimp only;rw[zT hN g1,aC,aG,zT hN I7.2,aC,aG,aG,mW,mW,aB (by simp only[aab,aaC];omega),aI (by omega) (by omega),aG];exact ih
  |false=>
   rw[dB,aG,aC];dsimp only;rw[zT hN g1,aC,aG,zT hN I7.1,aC,aG,aG,mW,mW,aB (by simp only[aab,aaC];omega),aI (by omega) (by omega),aG];exact ih
theorem OI(hN:20<=N)(h:rq v)(hl:4*(vp v).length<N):gB N v=some (uD v):=by unfold gB;exact OO hN v h hl (vp v).length 0 N (by omega) (by omega)
def one(s:bw):Option Int:=if(gi s).2.2=0/\(gi s).2.1=(s.length:Int)then some (gi s).1 else none
def Cl:List bw->List Pt->Option (List Pt)
 |a::b::c::d::r,acc=>match one a,one b with
  |some st,some ng=>if ng=0\/ng=1 then Cl r (acc++[(st,(ng==1,(c,d)))])else none
  |_,_=>none
 |_,acc=>some acc
def vz:Vr:=(0,(0,(0,(0,(0,(0,(0,[])))))))
def vD(l:List Int)(p:List Pt):Vr:=(l.getD 1 0,(l.getD 2 0,(l.getD 3 0,(l.getD 4 0,(l.getD 5 0,(l.getD 6 0,(l.getD 7 0,p)))))))
def P2(s:bw):Vr×Int:=
 match hd s 2 8 true with
 |none=>(vz,11)
 | some v=>if v.2.length % 4=0 then
   match Cl v.2 []with
   |none=>(vz,11)
   |some l=>(vD v.1 l,0)
  else(vz,11)
theorem Lx(h:jo n):one (iv n)=some n:=by unfold one;have:=HA h [];rw[aac]at this;rw[this,if_pos ⟨rfl,rfl⟩]
theorem Ps:∀(l acc:List Pt),(∀p∈l,jo p.1)->Cl (l.flatMap prt) acc=some (acc++l)
 |[],acc,_=>by rw[aac];rfl
 |p::l,acc,h=>by
  rw[abo];show Cl (iv p.1::iv (wz p.2.1)::p.2.2.1::p.2.2.2::l.flatMap prt) acc=_;rw[Cl,Lx (h p (by simp)),Lx (Ny _)];have e:((p.1,(wz p.2.1==1,(p.2.2.1,p.2.2.2))):Pt)=p:=by obtain⟨st,ng,a,b⟩:=p;cases ng<;>rfl
  have h01:wz p.2.1=0\/wz p.2.1=1:=by cases p.2.1<;>simp[wz]
  simp only[if_pos h01];rw[e,Ps l _ (fun q hq=>h q (by simp[hq])),ν];rfl
theorem L7(h:rq v):P2 (uD v)=(v,0):=by obtain⟨h1,h2,h3⟩:=h;unfold P2 uD;have hp:=Ol h3;rw[WE h1 (by show 8<=_;omega) (fun x hx=>by have:=hp x hx;omega) (by rw[wT];omega) 2 8 rfl rfl];simp only;rw[if_pos (by rw[wT];omega),Ps _ [] (fun p hp=>(h3 p hp).1)];rfl
theorem bF9{w:Vr}(h:rq v)(h':rq w)(e:uD v=uD w):v=w:=by have:=L7 h;rw[e,L7 h']at this;exact(congrArg Prod.fst this).symm
theorem Yo(h:rq v):(D7 (uD v)).2=11:=by unfold D7 uD;rw[Ww h.1 (by show 8<=_;omega) _ 1 7 false (by show 8≠7;omega)]
theorem Qt(h:tv r)(h':rq v):yJ r≠uD v:=fun e=>by have h1:=Yo h';rw[<-e,HZ h]at h1;have h1:(0:Int)=11:=h1;omega
end Go.Proofs.Tryz
set_option maxRecDepth 8000
set_option synthInstance.maxSize 100000
set_option synthInstance.maxHeartbeats 400000
namespace Go.Proofs.Tryz
open Go.Eng Go.RowKit Go.Nt
variable{N:Nat}{x y:Rd}{α β:Type}{l p3:List Rd}{d:Int}{p4 vs:List Vr}
theorem xb{a b:Bool}:bk a (some b) (some false)=some (a&&b):=by cases a<;>rfl
theorem Fb(P:List α)(c:α)(R:List α):(P++c::R)[P.length]?=some c:=by rw[List.getElem?_append_right (me _),acK];rfl
def wi(n lo hi:Int):Bool:=decide (n≥lo)&&decide (n<=hi)
theorem Yc(N:Nat)(a b c:Int):dU N a b c=some (wi a b c):=by unfold dU;rw[xb,aC];rfl
def rr(r:Rd):Bool:=wi r.1 0 39&&(wi r.2.1 0 1099511627776&&(decide (r.2.2.1≥0)&&(decide (r.2.2.1<r.2.2.2.1)&&(decide (r.2.2.2.1<=1402560)&&(wi r.2.2.2.2.1 0 1000&&wi r.2.2.2.2.2 0 14609)))))
theorem QT(N:Nat)(r:Rd):gI N r=some (rr r):=by unfold gI;simp only[Yc,aC,xb];rfl
theorem Ie(m:Nat):sD (m+1)=rY (sD m):=rfl
theorem or2(hN:3<=N)(a b:Int):qX N [a,b]=some (if a≠0 then a else b):=by
 obtain⟨m,rfl⟩:∃m,N=m+3:=⟨N-3,by omega⟩;unfold qX;rw[Ie,Ie,Ie];unfold rY;rw[aE (by rfl),lM (x:=a) (by decide) rfl];by_cases ha:a=0
 ·rw[aD (by rw[bne_eq_false_iff_eq];exact ha),aI (by decide) (by decide),aE (by rfl),lM (x:=b) (by decide) rfl,if_neg (by omega)];by_cases hb:b=0
  ·rw[aD (by rw[bne_eq_false_iff_eq];exact hb),aI (by decide) (by decide),aD (by rfl),hb]
  ·rw[aE (by rw[bne_iff_ne];exact hb)]
 ·rw[aE (by rw[bne_iff_ne];exact ha),if_pos ha]
def qd(x y:Rd):Int:=if jY x.1 y.1≠0 then jY x.1 y.1 else jY x.2.1 y.2.1
theorem NM(hN:3<=N)(x y:Rd):eL N x y=some (qd x y):=by unfold eL;rw[Ah,aC,Ah,aC,or2 hN,aC];rfl
def l6(x y:Rd):Prop:=x.1<y.1\/(x.1=y.1/\x.2.1<y.2.1)
def kr(x y:Rd):Prop:=x.1=y.1/\x.2.1=y.2.1
theorem Nb:qd x y<0↔l6 x y:=by
 unfold qd jY l6
 repeat' split
 all_goals omega
theorem R3:qd x y>0↔l6 y x:=by
 unfold qd jY l6
 repeat' split
 all_goals omega
theorem Tx:qd x y=0↔kr x y:=by
 unfold qd jY kr
 repeat' split
 all_goals omega
theorem Aa{z:Rd}(h:l6 x y)(h':l6 y z):l6 x z:=by unfold l6 at*;omega
theorem I5(h:l6 x y)(h':kr x y):False:=by unfold l6 kr at*;omega
theorem HX(h:l6 x y)(h':kr y x):False:=by unfold l6 kr at*;omega
theorem vM(h:kr x y):kr y x:=⟨h.1.symm,h.2.symm⟩
abbrev qq(l:List Rd):Prop:=l.Pairwise l6
def ui:Rd->List Rd->Bool
 |_,[]=>true
 |c,y::r=>rr y&&(decide (qd c y<0)&&ui y r)
def Ij:List Rd->Bool
 |[]=>true
 |x::r=>rr x&&ui x r
theorem IT(N m:Nat):jV N (m+1)=gP N (jV N m):=rfl
theorem NV{N n:Nat}(hN:3<=N)(hn:n<=100000):∀(R:List Rd) (m:Nat) (P:List Rd) (c:Rd),R.length<m->P.length+1+R.length=n->
  jV N m (P++c::R) (P++c::R) (n:Int) ((P.length+1:Nat):Int)=some (if ui c R then 0 else 1)
 |_,0,_,_,h,_=>absurd h (aah _)
 |[],m+1,P,c,hm,h3=>by
  have h3:P.length+1=n:=h3;rw[IT];unfold gP;rw[aD (decide_eq_false (by omega))];rfl
 |y::R,m+1,P,c,hm,h3=>by
  have lr:(y::R).length=R.length+1:=rfl;rw[lr]at h3 hm;have r1:P++(c::y::R)=(P++[c])++y::R:=by simp
  have l1:(P++[c]).length=P.length+1:=by simp
  have g1:(P++(c::y::R))[P.length+1]?=some y:=by rw[r1,<-l1];exact Fb _ y _
  have g2:(P++(c::y::R))[P.length]?=some c:=Fb P c _;have nxt:=NV hN hn R m (P++[c]) y (by omega) (by rw[l1];omega);rw[l1,<-r1]at nxt;have e1:((P.length+1:Nat):Int)-1=(P.length:Int):=by omega
  rw[IT];unfold gP;rw[aE (decide_eq_true (by omega)),cQ g1];show bj (bj (gI N y) _) _=_;rw[QT,aC];show _=some (if rr y&&(decide (qd c y<0)&&ui y R)then 0 else 1);cases hr:rr y with
  |false=>rfl
  |true=>
   rw[aaF,dB,aE (decide_eq_true (by omega)),e1,aI (by omega) (by omega),cQ g2];show bj (bj (eL N c y) _) _=_;rw[NM hN,aC,aC];dsimp only;by_cases hlt:qd c y<0
   ·rw[aD (decide_eq_false (by omega)),aI (by omega) (by omega),show((P.length+1:Nat):Int)+1=((P.length+1+1:Nat):Int) by omega,nxt,decide_eq_true hlt];rfl
   ·rw[aE (decide_eq_true (by omega)),decide_eq_false hlt];rfl
def ua(l:List Rd):Int:=if l.length>4000 then 2 else if Ij l then 0 else 1
theorem FZ(hN:4005<=N):jE N l=some (ua l):=by
 unfold jE ua;by_cases hl:l.length>4000
 ·rw[aE (decide_eq_true (by omega)),if_pos hl]
 ·rw[aD (decide_eq_false (by omega)),if_neg hl];obtain⟨m,rfl⟩:∃m,N=m+1:=⟨N-1,by omega⟩;rw[IT];unfold gP;cases l with
  |nil=>rfl
  |cons x R=>
   have lr:(x::R).length=R.length+1:=rfl;rw[lr]at hl;have nxt:=NV (N:=m+1) (n:=R.length+1) (by omega) (by omega) R m [] x (by omega) (by show 0+1+_=_;omega);rw[aE (decide_eq_true (by rw[lr];omega)),lM (x:=x) (by decide) rfl];show bj (bj (gI (m+1) x) _) _=_;rw[QT,aC];show _=some (if rr x&&ui x R then 0 else 1);cases hr:rr x with
   |false=>rfl
   |true=>
    rw[aaF,dB,aD (by rfl),aC];dsimp only;rw[dB,aI (by decide) (by decide)];exact nxt
theorem Q0:∀(R:List Rd) (c:Rd),ui c R=true↔(∀y∈R,rr y=true)/\qq (c::R)
 |[],c=>by simp[ui]
 |y::R,c=>by
  show(rr y&&(decide (qd c y<0)&&ui y R))=true↔_;rw[μ,μ,decide_eq_true_eq,Nb,Q0 R y];constructor
  ·rintro⟨h1,h2,h3,h4⟩;refine⟨fun z hz=>?_,aav.2 ⟨fun z hz=>?_,h4⟩⟩
   ·rcases υ.1 hz with rfl|hz
    ·exact h1
    ·exact h3 z hz
   ·rcases υ.1 hz with rfl|hz
    ·exact h2
    ·exact Aa h2 ((aav.1 h4).1 z hz)
  ·rintro⟨h1,h2⟩;have h2:=aav.1 h2;exact⟨h1 y aao,h2.1 y aao,fun z hz=>h1 z (aaa _ hz),h2.2⟩
theorem Wr(l:List Rd):Ij l=true↔(∀y∈l,rr y=true)/\qq l:=by
 cases l with
 |nil=>simp[Ij]
 |cons x R=>
  show(rr x&&ui x R)=true↔_;rw[μ,Q0];constructor
  ·rintro⟨h1,h2,h3⟩;refine⟨fun z hz=>?_,h3⟩;rcases υ.1 hz with rfl|hz
   ·exact h1
   ·exact h2 z hz
  ·rintro⟨h1,h2⟩;exact⟨h1 x aao,fun z hz=>h1 z (aaa _ hz),h2⟩
theorem yx(l:List Rd):ua l=0↔l.length<=4000/\(∀y∈l,rr y=true)/\qq l:=by
 unfold ua;rw[<-Wr];split
 ·constructor
  ·intro h;cases h
  ·rintro⟨h,_⟩;omega
 ·split
  ·rename_i h1 h2;exact⟨fun _=>⟨by omega,h2⟩,fun _=>rfl⟩
  ·rename_i h1 h2;exact⟨fun h=>(by cases h),fun h=>absurd h.2 h2⟩
def rep(x y:Rd):Prop:=x.1=y.1/\x.2.1=y.2.1/\x.2.2.1=y.2.2.1/\x.2.2.2.1=y.2.2.2.1/\x.2.2.2.2.1=y.2.2.2.2.1
instance(x y:Rd):Decidable (rep x y):=inferInstanceAs (Decidable (_/\_))
theorem aYn(N:Nat)(x y:Rd):fF N x y=some (decide (rep x y)):=by unfold fF;obtain⟨a,b,c,d,e,f⟩:=x;obtain⟨a',b',c',d',e',f'⟩:=y;refine congrArg some ?_;rw[aa7,decide_eq_true_eq];unfold rep;simp[mF]
def RC(a b:List Rd):Prop:=∀x∈a,∀y∈b,kr x y->rep x y
def xm(x y:Rd):Rd:=(x.1,(x.2.1,(x.2.2.1,(x.2.2.2.1,(x.2.2.2.2.1,Min.min x.2.2.2.2.2 y.2.2.2.2.2)))))
def Jn(a b:List Rd)(x:Rd):Prop:=(x∈a/\∀y∈b,¬kr x y)\/(x∈b/\∀y∈a,¬kr x y)\/∃y∈a,∃z∈b,kr y z/\x=xm y z
theorem Kd{a b:List Rd}(h:Jn a b x):∃y,(y∈a\/y∈b)/\kr x y:=by
 rcases h with⟨h,_⟩|⟨h,_⟩|⟨y,h,z,_,_,rfl⟩
 ·exact⟨x,.inl h,rfl,rfl⟩
 ·exact⟨x,.inr h,rfl,rfl⟩
 ·exact⟨y,.inl h,rfl,rfl⟩
theorem JH{z:Rd}(h:l6 x y)(h':kr z y):l6 x z:=by unfold l6 kr at*;omega
def Ag(xs:List Rd):Option (Int×List Rd):=if xs.length>4000 then some (2,[])else some (0,xs)
theorem KS(N m:Nat):cM N (m+1)=jR N (cM N m):=rfl
theorem C7(x:α)(l:List α):List.take ((x::l).length-1) (List.drop 1 (x::l))=l:=by show l.take (l.length+1-1)=l;rw[Nat.add_sub_cancel,List.take_length]
theorem O6{m:Nat}{a b out:List Rd}(h0:a=[]\/b=[])(hl:out.length+a.length+b.length<=100000):cM N (m+1) a b out=Ag (out++(a++b)):=by
 rw[KS];unfold jR;have hc':(bk (decide (((a.length:Nat):Int)>0)) (bf (out.length) (out) (some (a,b,decide (((b.length:Nat):Int)>0),out))) (bf (out.length) (out) (some (a,b,false,out))))=some (a,b,false,out):=by
  rcases h0 with rfl|rfl
  ·rw[aD (by rfl),aG]
  ·cases a with
   |nil=>rw[aD (by rfl),aG]
   |cons x a=>rw[aE (decide_eq_true (by simp only[aab];omega)),aG];rfl
 rw[hc',aC];dsimp only;rw[dB,aG,aB (by omega),aG,aB (by rw[ε];omega),aG];unfold Ag;rw[<-ν];by_cases h:(out++a++b).length>4000
 ·rw[aE (decide_eq_true (by omega)),if_pos h]
 ·rw[aD (decide_eq_false (by omega)),if_neg h]
theorem Du{N:Nat}(hN:3<=N):∀(n m:Nat) (a b out:List Rd),a.length+b.length<=n->n<m->out.length+a.length+b.length<=100000->qq a->qq b->
  (¬RC a b/\cM N m a b out=some (24,[]))\/(RC a b/\∃L,qq L/\(∀x,x∈L↔Jn a b x)/\L.length<=a.length+b.length/\cM N m a b out=Ag (out++L))
 |_,0,_,_,_,_,h,_,_,_=>absurd h (aah _)
 |n,m+1,[],b,out,h1,h2,h3,ha,hb=>by
  right;refine⟨fun x hx=>(aaT hx).elim,b,hb,fun x=>⟨fun h=>.inr (.inl ⟨h,fun y hy=>(aaT hy).elim⟩),?_⟩,by simp,?_⟩
  ·rintro(⟨h,_⟩|⟨h,_⟩|⟨y,h,_⟩)
   ·exact(aaT h).elim
   ·exact h
   ·exact(aaT h).elim
  ·rw[O6 (.inl rfl) (by simpa using h3)];rfl
 |n,m+1,x::a,[],out,h1,h2,h3,ha,hb=>by
  right;refine⟨fun x _ y hy=>(aaT hy).elim,x::a,ha,fun z=>⟨fun h=>.inl ⟨h,fun y hy=>(aaT hy).elim⟩,?_⟩,by simp,?_⟩
  ·rintro(⟨h,_⟩|⟨h,_⟩|⟨y,_,z,h,_⟩)
   ·exact h
   ·exact(aaT h).elim
   ·exact(aaT h).elim
  ·rw[O6 (.inr rfl) (by simpa using h3),aac]
 |0,m+1,x::a,y::b,out,h1,h2,h3,ha,hb=>by simp at h1
 |n+1,m+1,x::a,y::b,out,h1,h2,h3,ha,hb=>by
  have ha2:=aav.1 ha;have hb2:=aav.1 hb;have lx:(x::a).length=a.length+1:=rfl;have ly:(y::b).length=b.length+1:=rfl;rw[lx,ly]at h1 h3;rw[KS];unfold jR;rw[aE (decide_eq_true (by rw[lx];omega)),aG,aC];dsimp only;rw[aE (decide_eq_true (by rw[ly];omega)),lM (x:=x) (by decide) rfl,lM (x:=y) (by decide) rfl];have ho:∀K:Int->Option (Int×List Rd),bj (eL N (x.1,(x.2.1,(x.2.2.1,(x.2.2.2.1,(x.2.2.2.2.1,x.2.2.2.2.2))))) (y.1,(y.2.1,(y.2.2.1,(y.2.2.2.1,(y.2.2.2.2.1,y.2.2.2.2.2)))))) K=K (qd x y):=fun K=>by show bj (eL N x y) K=_;rw[NM hN,aC]
  rw[ho];have lo:∀z:Rd,(out++[z]).length=out.length+1:=fun z=>by simp
  by_cases hlt:qd x y<0
  ·have hxy:=Nb.1 hlt;rw[aE (decide_eq_true hlt),lM (x:=x) (by decide) rfl,aG,aB (by simp only[aab,aaC];omega),aB (by rw[lx];omega),aB (me _),aG,C7];have hno:∀z∈y::b,¬kr x z:=fun z hz h=>by
    rcases υ.1 hz with rfl|hz
    ·exact I5 hxy h
    ·exact I5 (Aa hxy (hb2.1 z hz)) h
   have hrc:RC (x::a) (y::b)↔RC a (y::b):=⟨fun h u hu=>h u (aaa _ hu),fun h u hu v hv e=>by
    rcases υ.1 hu with rfl|hu
    ·exact absurd e (hno v hv)
    ·exact h u hu v hv e⟩
   rw[hrc];rcases Du hN n m a (y::b) (out++[x]) (by rw[ly];omega) (by omega) (by rw[lo,ly];omega) ha2.2 hb with⟨g1,g2⟩|⟨g1,L,g2,g3,g4,g5⟩
   ·exact .inl ⟨g1,g2⟩
   ·refine .inr ⟨g1,x::L,aav.2 ⟨fun z hz=>?_,g2⟩,fun z=>?_,by rw[lx,aab];omega,by rw[g5,ν];rfl⟩
    ·obtain⟨u,hu,hs⟩:=Kd ((g3 z).1 hz);refine JH ?_ hs;rcases hu with hu|hu
     ·exact ha2.1 u hu
     ·rcases υ.1 hu with rfl|hu
      ·exact hxy
      ·exact Aa hxy (hb2.1 u hu)
    ·rw[υ,g3];constructor
     ·rintro(rfl|⟨h,h'⟩|⟨h,h'⟩|⟨u,hu,v,hv,e,rfl⟩)
      ·exact .inl ⟨aao,hno⟩
      ·exact .inl ⟨aaa _ h,h'⟩
      ·refine .inr (.inl ⟨h,fun u hu=>?_⟩);rcases υ.1 hu with rfl|hu
       ·exact fun e=>hno z h (vM e)
       ·exact h' u hu
      ·exact .inr (.inr ⟨u,aaa _ hu,v,hv,e,rfl⟩)
     ·rintro(⟨h,h'⟩|⟨h,h'⟩|⟨u,hu,v,hv,e,rfl⟩)
      ·rcases υ.1 h with rfl|h
       ·exact .inl rfl
       ·exact .inr (.inl ⟨h,h'⟩)
      ·exact .inr (.inr (.inl ⟨h,fun u hu=>h' u (aaa _ hu)⟩))
      ·rcases υ.1 hu with rfl|hu
       ·exact absurd e (hno v hv)
       ·exact .inr (.inr (.inr ⟨u,hu,v,hv,e,rfl⟩))
  ·rw[aD (decide_eq_false hlt)];by_cases hgt:qd x y>0
   ·have hyx:=R3.1 hgt;rw[aE (decide_eq_true hgt),lM (x:=y) (by decide) rfl,aG,aB (by simp only[aab,aaC];omega),aB (by rw[ly];omega),aB (me _),aG,C7];have hno:∀z∈x::a,¬kr z y:=fun z hz h=>by
     rcases υ.1 hz with rfl|hz
     ·exact HX hyx h
     ·exact HX (Aa hyx (ha2.1 z hz)) h
    have hrc:RC (x::a) (y::b)↔RC (x::a) b:=⟨fun h u hu v hv=>h u hu v (aaa _ hv),fun h u hu v hv e=>by
     rcases υ.1 hv with rfl|hv
     ·exact absurd e (hno u hu)
     ·exact h u hu v hv e⟩
    rw[hrc];rcases Du hN n m (x::a) b (out++[y]) (by rw[lx];omega) (by omega) (by rw[lo,lx];omega) ha hb2.2 with⟨g1,g2⟩|⟨g1,L,g2,g3,g4,g5⟩
    ·exact .inl ⟨g1,g2⟩
    ·refine .inr ⟨g1,y::L,aav.2 ⟨fun z hz=>?_,g2⟩,fun z=>?_,by rw[lx]at g4;rw[lx,ly,aab];omega,by rw[g5,ν];rfl⟩
     ·obtain⟨u,hu,hs⟩:=Kd ((g3 z).1 hz);refine JH ?_ hs;rcases hu with hu|hu
      ·rcases υ.1 hu with rfl|hu
       ·exact hyx
       ·exact Aa hyx (ha2.1 u hu)
      ·exact hb2.1 u hu
     ·rw[υ,g3];constructor
      ·rintro(rfl|⟨h,h'⟩|⟨h,h'⟩|⟨u,hu,v,hv,e,rfl⟩)
       ·exact .inr (.inl ⟨aao,fun u hu e=>hno u hu (vM e)⟩)
       ·refine .inl ⟨h,fun u hu=>?_⟩;rcases υ.1 hu with rfl|hu
        ·exact hno z h
        ·exact h' u hu
       ·exact .inr (.inl ⟨aaa _ h,h'⟩)
       ·exact .inr (.inr ⟨u,hu,v,aaa _ hv,e,rfl⟩)
      ·rintro(⟨h,h'⟩|⟨h,h'⟩|⟨u,hu,v,hv,e,rfl⟩)
       ·exact .inr (.inl ⟨h,fun u hu=>h' u (aaa _ hu)⟩)
       ·rcases υ.1 h with rfl|h
        ·exact .inl rfl
        ·exact .inr (.inr (.inl ⟨h,h'⟩))
       ·rcases υ.1 hv with rfl|hv
        ·exact absurd e (hno u hu)
        ·exact .inr (.inr (.inr ⟨u,hu,v,hv,e,rfl⟩))
   ·have hsp:kr x y:=Tx.1 (by omega);rw[aD (decide_eq_false hgt),lM (x:=x) (by decide) rfl,lM (x:=y) (by decide) rfl];have hr:∀K:Bool->Option (Int×List Rd),bj (fF N (x.1,(x.2.1,(x.2.2.1,(x.2.2.2.1,(x.2.2.2.2.1,x.2.2.2.2.2))))) (y.1,(y.2.1,(y.2.2.1,(y.2.2.2.1,(y.2.2.2.2.1,y.2.2.2.2.2)))))) K=K (decide (rep x y)):=fun K=>by show bj (fF N x y) K=_;rw[aYn,aC]
    rw[hr];by_cases hrep:rep x y
    ·rw[decide_eq_true hrep,aaF,dB,lM (x:=x) (by decide) rfl,lM (x:=y) (by decide) rfl];rw[qm,qm,qm,qm,qm,qm,aG,aB (by simp only[aab,aaC];omega),qm,qm,qm,qm,qm,qm,aB (by rw[lx];omega),aB (me _),aB (by rw[ly];omega),aB (me _),aG,C7,C7];have hno1:∀z∈b,¬kr x z:=fun z hz h=>by have:=hb2.1 z hz;unfold l6 kr at*;omega
     have hno2:∀z∈a,¬kr z y:=fun z hz h=>by have:=ha2.1 z hz;unfold l6 kr at*;omega
     have hrc:RC (x::a) (y::b)↔RC a b:=⟨fun h u hu v hv=>h u (aaa _ hu) v (aaa _ hv),fun h u hu v hv e=>by
      rcases υ.1 hu with rfl|hu
      ·rcases υ.1 hv with rfl|hv
       ·exact hrep
       ·exact absurd e (hno1 v hv)
      ·rcases υ.1 hv with rfl|hv
       ·exact absurd e (hno2 u hu)
       ·exact h u hu v hv e⟩
     rw[hrc];show(_/\cM N m a b (out++[xm x y])=_)\/(_/\∃L,_/\_/\_/\cM N m a b (out++[xm x y])=_);rcases Du hN n m a b (out++[xm x y]) (by omega) (by omega) (by rw[lo];omega) ha2.2 hb2.2 with⟨g1,g2⟩|⟨g1,L,g2,g3,g4,g5⟩
     ·exact .inl ⟨g1,g2⟩
     ·refine .inr ⟨g1,xm x y::L,aav.2 ⟨fun z hz=>?_,g2⟩,fun z=>?_,by rw[lx,ly,aab];omega,by rw[g5,ν];rfl⟩
      ·obtain⟨u,hu,hs⟩:=Kd ((g3 z).1 hz);refine JH ?_ hs;rcases hu with hu|hu
       ·exact ha2.1 u hu
       ·have:=hb2.1 u hu;unfold l6 kr xm at*;dsimp only;omega
      ·rw[υ,g3];constructor
       ·rintro(rfl|⟨h,h'⟩|⟨h,h'⟩|⟨u,hu,v,hv,e,rfl⟩)
        ·exact .inr (.inr ⟨x,aao,y,aao,hsp,rfl⟩)
        ·refine .inl ⟨aaa _ h,fun u hu=>?_⟩;rcases υ.1 hu with rfl|hu
         ·exact hno2 z h
         ·exact h' u hu
        ·refine .inr (.inl ⟨aaa _ h,fun u hu e=>?_⟩);rcases υ.1 hu with rfl|hu
         ·exact hno1 z h (vM e)
         ·exact h' u hu e
        ·exact .inr (.inr ⟨u,aaa _ hu,v,aaa _ hv,e,rfl⟩)
       ·rintro(⟨h,h'⟩|⟨h,h'⟩|⟨u,hu,v,hv,e,rfl⟩)
        ·rcases υ.1 h with rfl|h
         ·exact absurd hsp (h' y aao)
         ·exact .inr (.inl ⟨h,fun u hu=>h' u (aaa _ hu)⟩)
        ·rcases υ.1 h with rfl|h
         ·exact absurd (vM hsp) (h' x aao)
         ·exact .inr (.inr (.inl ⟨h,fun u hu=>h' u (aaa _ hu)⟩))
        ·rcases υ.1 hu with rfl|hu
         ·rcases υ.1 hv with rfl|hv
          ·exact .inl rfl
          ·exact absurd e (hno1 v hv)
         ·rcases υ.1 hv with rfl|hv
          ·exact absurd e (hno2 u hu)
          ·exact .inr (.inr (.inr ⟨u,hu,v,hv,e,rfl⟩))
    ·rw[decide_eq_false hrep,abk,mU];exact .inl ⟨fun h=>hrep (h x aao y aao hsp),rfl⟩
theorem UQ{a b:List Rd}(hN:8010<=N)(hca:ua a=0)(hcb:ua b=0):
  (¬RC a b/\fM N a b=some (24,[]))\/(RC a b/\∃L,qq L/\(∀x,x∈L↔Jn a b x)/\L.length<=a.length+b.length/\fM N a b=Ag L):=by
 obtain⟨a1,a2,a3⟩:=(yx a).1 hca;obtain⟨b1,b2,b3⟩:=(yx b).1 hcb;have key:fM N a b=cM N N a b []:=by unfold fM;obtain⟨m,rfl⟩:∃m,N=m+3:=⟨N-3,by omega⟩;generalize hK:m+3=K at*;rw[show nJ K K=gS K (gS K (gS K (nJ K m))) by rw[<-hK];rfl];unfold gS;rw[aE (by rfl),aB (by decide),aB (by show(0:Int)<((2:Nat):Int);decide),fO (x:=a) rfl,FZ (by omega),hca,aC,aD (by rfl),aI (by decide) (by decide),aG];rw[aE (by rfl),aB (by decide),aB (by show(1:Int)<((2:Nat):Int);decide),fO (x:=b) rfl,FZ (by omega),hcb,aC,aD (by rfl),aI (by decide) (by decide),aG,aD (by rfl)]
 rw[key];simpa using Du (N:=N) (by omega) (a.length+b.length) N a b [] (me _) (by omega) (by simp;omega) a3 b3
set_option maxRecDepth 8000
set_option synthInstance.maxSize 100000
set_option synthInstance.maxHeartbeats 400000
def Cc(l:List Pt):Prop:=∀p∈l,p.2.2.1.length<=50000/\p.2.2.2.length<=50000
theorem Yb(N:Nat)(a:Int):∃b,mD N a=some b:=by unfold mD;rw[xb,aC];exact⟨_,rfl⟩
theorem bTp(hN:17179869184<N){p:Rt}(h:p.2.1.length<=50000/\p.2.2.length<=50000):∃b,iN N p=some b:=by unfold iN;have:=Pc (N:=N) (p:=p) (by omega) (by omega) hN;have:mZ N (p.1,(p.2.1,p.2.2))=some (rv p):=this;rw[this,aC,xb,aC];exact⟨_,rfl⟩
theorem LP(N m:Nat):jC N (m+1)=mC N (jC N m):=rfl
theorem O1{N:Nat}(hN:17179869184<N)(l:List Pt)(h:Cc l)(hl:l.length<=100000):∀(k m i:Nat),i+k=l.length->k<m->∃c,jC N m l ((l.length:Nat):Int) (i:Int) l=some c
 |_,0,_,_,h=>absurd h (aah _)
 |0,m+1,i,h1,_=>by
  rw[LP];unfold mC;rw[aD (decide_eq_false (by omega))];exact⟨_,rfl⟩
 |k+1,m+1,i,h1,h2=>by
  have hlt:i<l.length:=by omega
  rw[LP];unfold mC;rw[aE (decide_eq_true (by omega)),cQ (ξ hlt)];obtain⟨b,hb⟩:=Yb N l[i].1;rw[hb,aC];cases b with
  |false=>exact⟨_,rfl⟩
  |true=>
   rw[aaF,dB];have hs:=h _ (abI hlt);obtain⟨c,hc⟩:=bTp hN (p:=l[i].2) hs;have hc:iN N (l[i].2.1,(l[i].2.2.1,l[i].2.2.2))=some c:=hc;rw[hc,aC];cases c with
   |false=>exact⟨_,rfl⟩
   |true=>
    rw[aaF,dB];obtain⟨c,nxt⟩:=O1 hN l h hl k m (i+1) (by omega) (by omega);have fin:∀x:Bool,∃c,(bj (some (l,((l.length:Nat):Int),(i:Int),x,l)) fun w14=>bk (w14.2.2.2.1) (some (1:Int)) (ck .i64 ((w14.2.2.1+1)) (jC N m w14.1 w14.2.1 (w14.2.2.1+1) w14.2.2.2.2)))=some c:=fun x=>by
     rw[aC];dsimp only;cases x with
     |true=>exact⟨_,rfl⟩
     |false=>
      rw[dB,aI (by omega) (by omega),show(i:Int)+1=((i+1:Nat):Int) by omega,nxt];exact⟨_,rfl⟩
    by_cases h0:i=0
    ·subst h0;rw[aD (by rfl)];exact fin _
    ·have hlt':i-1<l.length:=by omega
     have e1:(i:Int)-1=((i-1:Nat):Int):=by omega
     rw[aE (decide_eq_true (by omega)),e1,aI (by omega) (by omega),cQ (ξ hlt')];by_cases h3:l[i].1<=l[i-1].1
     ·rw[aE (decide_eq_true h3)];exact fin _
     ·have hs':=h _ (abI hlt');have hcm:=Zi (N:=N) (p:=l[i].2) (q:=l[i-1].2) (by omega) (by omega) (by omega) (by omega) hN;have hcm:vU N (l[i].2.1,(l[i].2.2.1,l[i].2.2.2)) (l[i-1].2.1,(l[i-1].2.2.1,l[i-1].2.2.2))=some (GM l[i].2 l[i-1].2):=hcm;rw[aD (decide_eq_false h3),aI (by omega) (by omega),cQ (ξ hlt'),hcm,aC];exact fin _
theorem bQ0(hN:17179869184<N)(l:List Pt)(h:Cc l):∃c,pH N l=some c:=by
 unfold pH;by_cases h1:l.length<1
 ·rw[aE (decide_eq_true (by omega)),aC];exact⟨_,rfl⟩
 ·rw[aD (decide_eq_false (by omega)),aC];dsimp only;by_cases h2:l.length>16
  ·rw[aE (decide_eq_true (by omega))];exact⟨_,rfl⟩
  ·rw[aD (decide_eq_false (by omega))];exact O1 hN l h (by omega) l.length N 0 (by omega) (by omega)
theorem OA{c:Bool}{a b:Option α}(ha:∃x,a=some x)(hb:∃x,b=some x):∃x,bk c a b=some x:=by
 cases c
 ·exact hb
 ·exact ha
theorem H2{a:Option α}{f:α->Option β}{P:α->Prop}(ha:∃x,a=some x/\P x)(hf:∀x,P x->∃y,f x=some y):∃y,bj a f=some y:=by obtain⟨x,rfl,hp⟩:=ha;exact hf x hp
theorem CK{P:α->Prop}{c:Bool}{a b:Option α}(ha:∃x,a=some x/\P x)(hb:∃x,b=some x/\P x):∃x,bk c a b=some x/\P x:=by
 cases c
 ·exact hb
 ·exact ha
theorem SW(k:Int):∃o:Option Int,dA (iZ (iZ ([]:(List TM)) 2 1000) 3 960) k=o/\0<=o.getD 0/\o.getD 0<=1000:=by
 refine⟨_,rfl,?_⟩;by_cases h2:k=2
 ·subst h2;decide
 ·by_cases h3:k=3
  ·subst h3;decide
  ·have:dA (iZ (iZ ([]:(List TM)) 2 1000) 3 960) k=none:=by
    have e:iZ (iZ ([]:(List TM)) 2 1000) 3 960=[(2,1000),(3,960)]:=by decide
    rw[e];simp[dA,Ne.symm h2,Ne.symm h3]
   rw[this];decide
theorem bP1(hN:17179869184<N)(v:Vr)(h:Cc (vp v)):∃b,eH N v=some b:=by
 unfold eH;refine H2 (P:=fun w=>w.2=v) ?_ ?_
 ·repeat' first
   |exact⟨_,rfl,rfl⟩
   |refine CK ?_ ?_
 ·rintro⟨x,w⟩ hw;have hw:w=v:=hw;subst hw;dsimp only;refine OA ⟨_,rfl⟩ (OA ?_ ?_)
  ·refine H2 (P:=fun _=>True) ?_ fun x _=>⟨_,rfl⟩;refine CK ?_ ⟨_,rfl,trivial⟩;obtain⟨c,hc⟩:=bQ0 hN (vp w) h;rw[show w.2.2.2.2.2.2.2=vp w from rfl,hc,aC];exact⟨_,rfl,trivial⟩
  ·refine H2 (P:=fun _=>True) ?_ fun x _=>⟨_,rfl⟩;obtain⟨o,ho,h1,h2⟩:=SW w.1;rw[ho];refine CK (CK ?_ ⟨_,rfl,trivial⟩) ⟨_,rfl,trivial⟩;rw[aI (by omega) (by omega)];exact CK ⟨_,rfl,trivial⟩ ⟨_,rfl,trivial⟩
def vr(N:Nat)(v:Vr):Bool:=(eH N v).getD false
theorem QG(hN:17179869184<N){v:Vr}(h:Cc (vp v)):eH N v=some (vr N v):=by obtain⟨b,hb⟩:=bP1 hN v h;unfold vr;rw[hb];rfl
def vh(N:Nat):Vr->List Vr->Bool
 |_,[]=>true
 |c,y::r=>vr N y&&(decide (yA c y<0)&&vh N y r)
def JM(N:Nat):List Vr->Bool
 |[]=>true
 |x::r=>vr N x&&vh N x r
def l7(l:List Vr):Prop:=∀v∈l,Cc (vp v)
theorem JG(N m:Nat):jO N (m+1)=gN N (jO N m):=rfl
theorem NX{N n:Nat}(hN:17179869184<N)(hn:n<=100000):∀(R:List Vr) (m:Nat) (P:List Vr) (c:Vr),l7 R->R.length<m->P.length+1+R.length=n->
  jO N m (P++c::R) (P++c::R) (n:Int) ((P.length+1:Nat):Int)=some (if vh N c R then 0 else 1)
 |_,0,_,_,_,h,_=>absurd h (aah _)
 |[],m+1,P,c,_,hm,h3=>by
  have h3:P.length+1=n:=h3;rw[JG];unfold gN;rw[aD (decide_eq_false (by omega))];rfl
 |y::R,m+1,P,c,hs,hm,h3=>by
  have lr:(y::R).length=R.length+1:=rfl;rw[lr]at h3 hm;have r1:P++(c::y::R)=(P++[c])++y::R:=by simp
  have l1:(P++[c]).length=P.length+1:=by simp
  have g1:(P++(c::y::R))[P.length+1]?=some y:=by rw[r1,<-l1];exact Fb _ y _
  have g2:(P++(c::y::R))[P.length]?=some c:=Fb P c _;have nxt:=NX hN hn R m (P++[c]) y (fun v hv=>hs v (aaa _ hv)) (by omega) (by rw[l1];omega);rw[l1,<-r1]at nxt;have e1:((P.length+1:Nat):Int)-1=(P.length:Int):=by omega
  rw[JG];unfold gN;rw[aE (decide_eq_true (by omega)),cQ g1];show bj (bj (eH N y) _) _=_;rw[QG hN (hs y aao),aC];show _=some (if vr N y&&(decide (yA c y<0)&&vh N y R)then 0 else 1);cases hr:vr N y with
  |false=>rfl
  |true=>
   rw[aaF,dB,aE (decide_eq_true (by omega)),e1,aI (by omega) (by omega),cQ g2];show bj (bj (fN N c y) _) _=_;rw[Ge,aC,aC];dsimp only;by_cases hlt:yA c y<0
   ·rw[aD (decide_eq_false (by omega)),aI (by omega) (by omega),show((P.length+1:Nat):Int)+1=((P.length+1+1:Nat):Int) by omega,nxt,decide_eq_true hlt];rfl
   ·rw[aE (decide_eq_true (by omega)),decide_eq_false hlt];rfl
def A0(N:Nat)(l:List Vr):Int:=if l.length>400 then 2 else if JM N l then 0 else 1
theorem JX{l:List Vr}(hN:17179869184<N)(hs:l7 l):cZ N l=some (A0 N l):=by
 unfold cZ A0;by_cases hl:l.length>400
 ·rw[aE (decide_eq_true (by omega)),if_pos hl]
 ·rw[aD (decide_eq_false (by omega)),if_neg hl];obtain⟨m,rfl⟩:∃m,N=m+1:=⟨N-1,by omega⟩;rw[JG];unfold gN;cases l with
  |nil=>rfl
  |cons x R=>
   have lr:(x::R).length=R.length+1:=rfl;rw[lr]at hl;have nxt:=NX (N:=m+1) (n:=R.length+1) hN (by omega) R m [] x (fun v hv=>hs v (aaa _ hv)) (by omega) (by show 0+1+_=_;omega);rw[aE (decide_eq_true (by rw[lr];omega)),lM (x:=x) (by decide) rfl];show bj (bj (eH (m+1) x) _) _=_;rw[QG hN (hs x aao),aC];show _=some (if vr (m+1) x&&vh (m+1) x R then 0 else 1);cases hr:vr (m+1) x with
   |false=>rfl
   |true=>
    rw[aaF,dB,aD (by rfl),aC];dsimp only;rw[dB,aI (by decide) (by decide)];exact nxt
theorem bQf{x y z:Vr}(h:ik x y)(h':ik y z):ik x z:=by unfold ik at*;omega
theorem QI{N:Nat}:∀(R:List Vr) (c:Vr),vh N c R=true↔(∀y∈R,vr N y=true)/\rz (c::R)
 |[],c=>by simp[vh]
 |y::R,c=>by
  show(vr N y&&(decide (yA c y<0)&&vh N y R))=true↔_;rw[μ,μ,decide_eq_true_eq,Q2,QI R y];constructor
  ·rintro⟨h1,h2,h3,h4⟩;refine⟨fun z hz=>?_,aav.2 ⟨fun z hz=>?_,h4⟩⟩
   ·rcases υ.1 hz with rfl|hz
    ·exact h1
    ·exact h3 z hz
   ·rcases υ.1 hz with rfl|hz
    ·exact h2
    ·exact bQf h2 ((aav.1 h4).1 z hz)
  ·rintro⟨h1,h2⟩;have h2:=aav.1 h2;exact⟨h1 y aao,h2.1 y aao,fun z hz=>h1 z (aaa _ hz),h2.2⟩
theorem Z4(l:List Vr):JM N l=true↔(∀y∈l,vr N y=true)/\rz l:=by
 cases l with
 |nil=>simp[JM]
 |cons x R=>
  show(vr N x&&vh N x R)=true↔_;rw[μ,QI];constructor
  ·rintro⟨h1,h2,h3⟩;refine⟨fun z hz=>?_,h3⟩;rcases υ.1 hz with rfl|hz
   ·exact h1
   ·exact h2 z hz
  ·rintro⟨h1,h2⟩;exact⟨h1 x aao,fun z hz=>h1 z (aaa _ hz),h2⟩
theorem Cp(l:List Vr):A0 N l=0↔l.length<=400/\(∀y∈l,vr N y=true)/\rz l:=by
 unfold A0;rw[<-Z4];split
 ·constructor
  ·intro h;cases h
  ·rintro⟨h,_⟩;omega
 ·split
  ·rename_i h1 h2;exact⟨fun _=>⟨by omega,h2⟩,fun _=>rfl⟩
  ·rename_i h1 h2;exact⟨fun h=>(by cases h),fun h=>absurd h.2 h2⟩
abbrev Sg:=Int×(List Rd×List Vr)
variable{a b s c:Sg}
abbrev oz(r:Rd):Int:=r.2.2.2.2.2
abbrev sa(v:Vr):Int:=v.2.2.2.1
theorem Ph(N m:Nat):cA N (m+1)=bX N (cA N m):=rfl
theorem N8(N m:Nat):bZ N (m+1)=cC N (bZ N m):=rfl
theorem Qn(N:Nat)(l:List Rd)(d:Int)(p3:List Rd)(p4:List Vr)(hl:l.length<=100000):∀(k m i:Nat),i+k=l.length->k<m->∃x,cA N m l ((l.length:Nat):Int) (i:Int) d p3 p4=some (x,(d,(p3,p4)))/\(x≥0↔∃y∈l.drop i,oz y≠d)
 |_,0,_,_,h=>absurd h (aah _)
 |0,m+1,i,h1,_=>by
  rw[Ph];unfold bX;rw[aD (decide_eq_false (by omega)),aar (by omega)];exact⟨_,rfl,by simp⟩
 |k+1,m+1,i,h1,h2=>by
  have hlt:i<l.length:=by omega
  rw[Ph];unfold bX;rw[aE (decide_eq_true (by omega)),cQ (ξ hlt)];unfold oG;rw[aC];dsimp only;obtain⟨x,nxt,hx⟩:=Qn N l d p3 p4 hl k m (i+1) (by omega) (by omega);rw[aaD hlt];by_cases h:oz l[i]=d
  ·rw[aD (by rw[bne_eq_false_iff_eq];exact h),aI (by omega) (by omega),show(i:Int)+1=((i+1:Nat):Int) by omega,nxt];refine⟨x,rfl,hx.trans ⟨?_,?_⟩⟩
   ·rintro⟨y,h3,h4⟩;exact⟨y,aaa _ h3,h4⟩
   ·rintro⟨y,h3,h4⟩;rcases υ.1 h3 with rfl|h3
    ·exact absurd h h4
    ·exact⟨y,h3,h4⟩
  ·rw[aE (by rw[bne_iff_ne];exact h)];exact⟨_,rfl,⟨fun _=>⟨_,aao,h⟩,fun _=>by omega⟩⟩
theorem PH(N:Nat)(l:List Vr)(d:Int)(p3:List Rd)(p4:List Vr)(hl:l.length<=100000):∀(k m i:Nat),i+k=l.length->k<m->∃x,bZ N m l ((l.length:Nat):Int) (i:Int) d p3 p4=some (x,(d,(p3,p4)))/\(x≥0↔∃y∈l.drop i,sa y≠d)
 |_,0,_,_,h=>absurd h (aah _)
 |0,m+1,i,h1,_=>by
  rw[N8];unfold cC;rw[aD (decide_eq_false (by omega)),aar (by omega)];exact⟨_,rfl,by simp⟩
 |k+1,m+1,i,h1,h2=>by
  have hlt:i<l.length:=by omega
  rw[N8];unfold cC;rw[aE (decide_eq_true (by omega)),cQ (ξ hlt)];unfold nY;rw[aC];dsimp only;obtain⟨x,nxt,hx⟩:=PH N l d p3 p4 hl k m (i+1) (by omega) (by omega);rw[aaD hlt];by_cases h:sa l[i]=d
  ·rw[aD (by rw[bne_eq_false_iff_eq];exact h),aI (by omega) (by omega),show(i:Int)+1=((i+1:Nat):Int) by omega,nxt];refine⟨x,rfl,hx.trans ⟨?_,?_⟩⟩
   ·rintro⟨y,h3,h4⟩;exact⟨y,aaa _ h3,h4⟩
   ·rintro⟨y,h3,h4⟩;rcases υ.1 h3 with rfl|h3
    ·exact absurd h h4
    ·exact⟨y,h3,h4⟩
  ·rw[aE (by rw[bne_iff_ne];exact h)];exact⟨_,rfl,⟨fun _=>⟨_,aao,h⟩,fun _=>by omega⟩⟩
theorem UJ(hl:l.length<=100000)(hN:l.length<N):bU N l d p3 p4=some (!decide (∀y∈l,oz y=d),(d,(p3,p4))):=by
 unfold bU dJ;obtain⟨x,h,hx⟩:=Qn N l d p3 p4 hl l.length N 0 (by omega) hN;rw[show(((0:Nat):Int))=0 from rfl]at h;rw[h,aC];dsimp only;rw[aax]at hx;have:decide (x≥0)=!decide (∀y∈l,oz y=d):=by rw[aa7,decide_eq_true_eq,hx];simp
 rw[this]
theorem SI{l:List Vr}(hl:l.length<=100000)(hN:l.length<N):bT N l d p3 p4=some (!decide (∀y∈l,sa y=d),(d,(p3,p4))):=by
 unfold bT dG;obtain⟨x,h,hx⟩:=PH N l d p3 p4 hl l.length N 0 (by omega) hN;rw[show(((0:Nat):Int))=0 from rfl]at h;rw[h,aC];dsimp only;rw[aax]at hx;have:decide (x≥0)=!decide (∀y∈l,sa y=d):=by rw[aa7,decide_eq_true_eq,hx];simp
 rw[this]
def uq(N:Nat)(l:List Rd)(vs:List Vr):Int:=if ua l≠0 then ua l else A0 N vs
theorem bFa(hN:17179869184<N)(hs:l7 vs):gJ N l vs=some (uq N l vs):=by
 unfold gJ uq;rw[FZ (by omega),aC,JX hN hs,aC];by_cases h:ua l=0
 ·rw[aD (by rw[bne_eq_false_iff_eq];exact h),if_neg (by omega)]
 ·rw[aE (by rw[bne_iff_ne];exact h),if_pos h]
theorem Hu:uq N l vs=0↔ua l=0/\A0 N vs=0:=by
 unfold uq;split
 ·omega
 ·omega
def uf(N:Nat)(s:Sg):Int:=if wi s.1 0 14609=true then(if uq N s.2.1 s.2.2≠0 then uq N s.2.1 s.2.2 else if(∀y∈s.2.1,oz y=s.1)/\∀y∈s.2.2,sa y=s.1 then 0 else 1)else 3
theorem bTq(N:Nat)(n:Int):lQ N n=some (wi n 0 14609):=by unfold lQ;rw[xb,aC];rfl
theorem Nv(hN:17179869184<N)(hs:l7 s.2.2):cY N s=some (uf N s):=by
 unfold cY uf;rw[bTq,aC];cases hd:wi s.1 0 14609 with
 |false=>rfl
 |true=>
  rw[aaF,dB,bFa hN hs,aC,if_pos rfl];by_cases h:uq N s.2.1 s.2.2=0
  ·rw[aD (by rw[bne_eq_false_iff_eq];exact h),if_neg (by omega)];obtain⟨h1,h2⟩:=Hu.1 h;have l1:=((yx _).1 h1).1;have l2:=((Cp _).1 h2).1;rw[UJ (by omega) (by omega),aC];dsimp only;by_cases h3:∀y∈s.2.1,oz y=s.1
   ·rw[decide_eq_true h3,aaF,dB,SI (by omega) (by omega),aC,aC];dsimp only;by_cases h4:∀y∈s.2.2,sa y=s.1
    ·rw[decide_eq_true h4,aaF,dB,if_pos ⟨h3,h4⟩]
    ·rw[decide_eq_false h4,abk,mU,if_neg fun h=>h4 h.2]
   ·rw[decide_eq_false h3,abk,mU,aC,mU,if_neg fun h=>h3 h.1]
  ·rw[aE (by rw[bne_iff_ne];exact h),if_pos h]
structure pw (N:Nat) (s:Sg):Prop where
 day:wi s.1 0 14609=true
 len:s.2.1.length<=4000
 rr:∀y∈s.2.1,rr y=true
 nu:qq s.2.1
 kc:s.2.2.length<=400
 vr:∀y∈s.2.2,vr N y=true
 pn:rz s.2.2
 kn:∀y∈s.2.1,oz y=s.1
 sa:∀y∈s.2.2,sa y=s.1
theorem O3:uf N s=0↔pw N s:=by
 unfold uf;constructor
 ·intro h;split at h
  ·rename_i h1;split at h
   ·omega
   ·rename_i h2;split at h
    ·rename_i h3;obtain⟨h4,h5⟩:=Hu.1 (show uq N s.2.1 s.2.2=0 by omega);obtain⟨a1,a2,a3⟩:=(yx _).1 h4;obtain⟨b1,b2,b3⟩:=(Cp _).1 h5;exact⟨h1,a1,a2,a3,b1,b2,b3,h3.1,h3.2⟩
    ·omega
  ·omega
 ·intro h;have hk:uq N s.2.1 s.2.2=0:=Hu.2 ⟨(yx _).2 ⟨h.len,h.rr,h.nu⟩,(Cp _).2 ⟨h.kc,h.vr,h.pn⟩⟩;rw[if_pos h.day,if_neg (by omega),if_pos ⟨h.kn,h.sa⟩]
def l8(N:Nat)(a b:Sg):Int:=if uf N a≠0 then uf N a else if uf N b≠0 then uf N b else if a.1≠b.1 then 1 else 0
theorem Ac(hN:17179869184<N)(ha:l7 a.2.2)(hb:l7 b.2.2):cI N a b=some (l8 N a b):=by
 unfold cI l8;have e1:cY N (a.1,(a.2.1,a.2.2))=_:=Nv hN ha;have e2:cY N (b.1,(b.2.1,b.2.2))=_:=Nv hN hb;rw[e1,e2,aC,aC];by_cases h1:uf N a=0
 ·rw[aD (by rw[bne_eq_false_iff_eq];exact h1),if_neg (by omega)];by_cases h2:uf N b=0
  ·rw[aD (by rw[bne_eq_false_iff_eq];exact h2),if_neg (by omega)];by_cases h3:a.1=b.1
   ·rw[aD (by rw[bne_eq_false_iff_eq];exact h3),if_neg (by omega)]
   ·rw[aE (by rw[bne_iff_ne];exact h3),if_pos h3]
  ·rw[aE (by rw[bne_iff_ne];exact h2),if_pos h2]
 ·rw[aE (by rw[bne_iff_ne];exact h1),if_pos h1]
theorem wo:l8 N a b=0↔pw N a/\pw N b/\a.1=b.1:=by
 unfold l8;rw[<-O3,<-O3];split
 ·constructor
  ·intro h;omega
  ·rintro⟨h,_⟩;omega
 ·split
  ·constructor
   ·intro h;omega
   ·rintro⟨_,h,_⟩;omega
  ·split
   ·constructor
    ·intro h;omega
    ·rintro⟨_,_,h⟩;omega
   ·constructor
    ·intro h;omega
    ·intro _;rfl
theorem Ex(h:rep x y)(hx:oz x=d)(hy:oz y=d):x=y/\xm x y=x:=by obtain⟨x1,x2,x3,x4,x5,x6⟩:=x;obtain⟨y1,y2,y3,y4,y5,y6⟩:=y;unfold rep at h;dsimp only[oz]at*;obtain⟨rfl,rfl,rfl,rfl,rfl⟩:=h;subst hx hy;exact⟨rfl,by unfold xm;dsimp only;rw[show min y6 y6=y6 by omega]⟩
theorem Na(x:Rd):rep x x:=⟨rfl,rfl,rfl,rfl,rfl⟩
theorem bSv{a b:List Rd}(h:RC a b)(ha:∀x∈a,oz x=d)(hb:∀x∈b,oz x=d)(x:Rd):Jn a b x↔x∈a\/x∈b:=by
 constructor
 ·rintro(⟨h1,_⟩|⟨h1,_⟩|⟨y,hy,z,hz,e,rfl⟩)
  ·exact .inl h1
  ·exact .inr h1
  ·rw[(Ex (h y hy z hz e) (ha y hy) (hb z hz)).2];exact .inl hy
 ·rintro(h1|h1)
  ·by_cases hq:∃z∈b,kr x z
   ·obtain⟨z,hz,e⟩:=hq;exact .inr (.inr ⟨x,h1,z,hz,e,(Ex (h x h1 z hz e) (ha x h1) (hb z hz)).2.symm⟩)
   ·exact .inl ⟨h1,fun y hy e=>hq ⟨y,hy,e⟩⟩
  ·by_cases hq:∃z∈a,kr z x
   ·obtain⟨z,hz,e⟩:=hq;have q:=Ex (h z hz x h1 e) (ha z hz) (hb x h1);exact .inr (.inr ⟨z,hz,x,h1,e,by rw[q.2];exact q.1.symm⟩)
   ·exact .inr (.inl ⟨h1,fun y hy e=>hq ⟨y,hy,vM e⟩⟩)
def SC(a b:Sg):Prop:=RC a.2.1 b.2.1/\ru (a.2.2++b.2.2)
structure SU (N:Nat) (a b c:Sg):Prop where
 ok:pw N c
 day:c.1=a.1
 rd:∀x,x∈c.2.1↔x∈a.2.1\/x∈b.2.1
 vs:∀x,x∈c.2.2↔x∈a.2.2\/x∈b.2.2
 len:c.2.1.length<=a.2.1.length+b.2.1.length
 kc:c.2.2.length<=a.2.2.length+b.2.2.length
theorem Qm{l:List Vr}(hN:17179869184<N)(h:∀y∈l,vr N y=true)(hp:∀v∈l,(vp v).length<=100000):j7 N l:=fun x hx=>by have:x.2.2.2.2.2.2.2.length<=100000:=hp x hx;exact⟨by omega,by omega⟩
theorem UU{l:List Vr}(h:rz l):l.Nodup:=List.Pairwise.imp (fun h e=>by subst e;unfold ik at h;omega) h
theorem Pv{α:Type}:∀{l m:List α},l.Nodup->(∀x∈l,x∈m)->l.length<=m.length
 |[],_,_,_=>aa2 _
 |x::l,m,h,hs=>by
  obtain⟨h1,h2⟩:=List.nodup_cons.1 h;obtain⟨s,t,rfl⟩:=List.append_of_mem (hs x aao);have:=Pv (m:=s++t) h2 fun y hy=>by
   have:=hs y (aaa _ hy);simp only[aaj,υ]at this|-;rcases this with h|rfl|h
   ·exact .inl h
   ·exact absurd hy h1
   ·exact .inr h
  simp only[ε,aab]at*;omega
theorem Xp(hN:17179869184<N)(hpa:∀v∈a.2.2,(vp v).length<=100000)(hpb:∀v∈b.2.2,(vp v).length<=100000)(ha:pw N a)(hb:pw N b)(hsa:l7 a.2.2)(hsb:l7 b.2.2)(hd:a.1=b.1)(h1:a.2.1.length+b.2.1.length<=4000)(h2:a.2.2.length+b.2.2.length<=400):
  (¬SC a b/\aT N a b=some (0,([],([],24))))\/(SC a b/\∃c,SU N a b c/\aT N a b=some (c.1,(c.2.1,(c.2.2,0)))):=by
 unfold aT;have e1:cI N (a.1,(a.2.1,a.2.2)) (b.1,(b.2.1,b.2.2))=some (l8 N a b):=Ac hN hsa hsb;rw[e1,aC,aD (by rw[bne_eq_false_iff_eq];exact wo.2 ⟨ha,hb,hd⟩)];have kb:∀x∈b.2.1,oz x=a.1:=fun x hx=>(hb.kn x hx).trans hd.symm;rcases UQ (N:=N) (a:=a.2.1) (b:=b.2.1) (by omega) ((yx _).2 ⟨ha.len,ha.rr,ha.nu⟩) ((yx _).2 ⟨hb.len,hb.rr,hb.nu⟩)with⟨g1,g2⟩|⟨g1,L,g2,g3,g4,g5⟩
 ·rw[g2,aC];exact .inl ⟨fun h=>g1 h.1,rfl⟩
 ·have hL:Ag L=some (0,L):=by unfold Ag;rw[if_neg (by omega)]
  rw[g5,hL,aC,aD (by rfl)];have v1:=JX (l:=a.2.2) hN hsa;rw[(Cp _).2 ⟨ha.kc,ha.vr,ha.pn⟩]at v1;have v2:=JX (l:=b.2.2) hN hsb;rw[(Cp _).2 ⟨hb.kc,hb.vr,hb.pn⟩]at v2;have cv:j7 N (a.2.2++b.2.2):=fun x hx=>by
   rcases aaj.1 hx with hx|hx
   ·exact Qm hN ha.vr hpa x hx
   ·exact Qm hN hb.vr hpb x hx
  rcases bPp (N:=N) (a:=a.2.2) (b:=b.2.2) (by omega) (by omega) v1 v2 cv with⟨k1,k2⟩|⟨k1,W,k2,k3,k4⟩
  ·rw[k2,aC];exact .inl ⟨fun h=>k1 h.2,rfl⟩
  ·have lw:W.length<=a.2.2.length+b.2.2.length:=by rw[<-ε];exact Pv (UU k2) fun x hx=>aaj.2 ((k3 x).1 hx)
   rcases k4 with⟨k4,_⟩|⟨k4,k5⟩
   ·omega
   ·rw[k5,aC,aD (by rfl),aG,aG];have hrd:∀x,x∈L↔x∈a.2.1\/x∈b.2.1:=fun x=>(g3 x).trans (bSv g1 ha.kn kb x);refine .inr ⟨⟨g1,k1⟩,(a.1,(L,W)),⟨⟨ha.day,by show L.length<=_;omega,fun y hy=>?_,g2,k4,fun y hy=>?_,k2,fun y hy=>?_,fun y hy=>?_⟩,rfl,hrd,k3,g4,lw⟩,rfl⟩
    ·rcases(hrd y).1 hy with h|h
     ·exact ha.rr y h
     ·exact hb.rr y h
    ·rcases(k3 y).1 hy with h|h
     ·exact ha.vr y h
     ·exact hb.vr y h
    ·rcases(hrd y).1 hy with h|h
     ·exact ha.kn y h
     ·exact kb y h
    ·rcases(k3 y).1 hy with h|h
     ·exact ha.sa y h
     ·exact(hb.sa y h).trans hd.symm
theorem Es(hN:17179869184<N)(hsa:l7 a.2.2)(hsb:l7 b.2.2)(h:l8 N a b≠0):aT N a b=some (0,([],([],l8 N a b))):=by unfold aT;have e1:cI N (a.1,(a.2.1,a.2.2)) (b.1,(b.2.1,b.2.2))=some (l8 N a b):=Ac hN hsa hsb;rw[e1,aC,aE (by rw[bne_iff_ne];exact h)]
theorem Kx:∀{l l':List Rd},qq l->qq l'->(∀x,x∈l↔x∈l')->l=l'
 |[],[],_,_,_=>rfl
 |[],y::l',_,_,h=>absurd ((h y).2 aao) aaT
 |x::l,[],_,_,h=>absurd ((h x).1 aao) aaT
 |x::l,y::l',h1,h2,h=>by
  have p1:=aav.1 h1;have p2:=aav.1 h2;have irr:∀z,l6 z z->False:=fun z hz=>by unfold l6 at hz;omega
  have e:x=y:=by
   rcases υ.1 ((h x).1 aao)with e|e
   ·exact e
   ·rcases υ.1 ((h y).2 aao)with e'|e'
    ·exact e'.symm
    ·exact(irr _ (Aa (p1.1 _ e') (p2.1 _ e))).elim
  subst e;rw[Kx p1.2 p2.2 fun z=>⟨fun hz=>?_,fun hz=>?_⟩]
  ·rcases υ.1 ((h z).1 (aaa _ hz))with e|e
   ·subst e;exact(irr _ (p1.1 _ hz)).elim
   ·exact e
  ·rcases υ.1 ((h z).2 (aaa _ hz))with e|e
   ·subst e;exact(irr _ (p2.1 _ hz)).elim
   ·exact e
theorem JA{d:Sg}(hc:pw N c)(hd:pw N d)(h1:c.1=d.1)(h2:∀x,x∈c.2.1↔x∈d.2.1)(h3:∀x,x∈c.2.2↔x∈d.2.2):c=d:=by obtain⟨c1,c2,c3⟩:=c;obtain⟨d1,d2,d3⟩:=d;dsimp only at*;have e2:c2=d2:=Kx hc.nu hd.nu h2;have e3:c3=d3:=LI hc.pn hd.pn h3;rw[h1,e2,e3]
theorem ES{α:Type}[DecidableEq α](es:List (α×β))(k:α)(v:β)(j:α):dA (iZ es k v) j=if j=k then some v else dA es j:=by
 induction es with
 |nil=>simp only[iZ,dA];split<;>simp_all[eq_comm]
 |cons e es ih=>
  unfold iZ;split
  ·rename_i h;simp only[dA];split<;>rename_i h2
   ·rw[if_pos h2.symm]
   ·rw[if_neg (fun h3=>h2 h3.symm)];rw[if_neg (fun h3=>h2 (by rw[<-h,h3]))]
  ·rename_i h;simp only[dA,ih];split<;>rename_i h2
   ·rw[if_neg (fun h3=>h (by rw[h2,h3]))]
   ·rfl
theorem OX(N m:Nat):jS N (m+1)=jK N (jS N m):=rfl
theorem PC(N m:Nat):jM N (m+1)=jQ N (jM N m):=rfl
theorem Ls{N:Nat}(hN:5000<=N)(l:List Vr)(h:∀v∈l,rq v)(hl:l.length<=100000):∀(k m i:Nat) (acc:List bw),i+k=l.length->k<m->acc.length<=100000+i->jS N m l ((l.length:Nat):Int) (i:Int) acc=some (acc++(l.drop i).map uD)
 |_,0,_,_,_,h,_=>absurd h (aah _)
 |0,m+1,i,acc,h1,_,_=>by
  rw[OX];unfold jK;rw[aD (decide_eq_false (by omega)),aG,aar (by omega),List.map_nil,aac]
 |k+1,m+1,i,acc,h1,h2,h3=>by
  have hlt:i<l.length:=by omega
  have hv:=h _ (abI hlt);have hq:=hv.2.1;have hv:=OI (N:=N) (by omega) hv (by omega);rw[OX];unfold jK;rw[aE (decide_eq_true (by omega)),cQ (ξ hlt)];show bj (gB N l[i]) _=_;rw[hv,aC,aG,aB (by simp only[aab,aaC];omega),aI (by omega) (by omega),aG,show(i:Int)+1=((i+1:Nat):Int) by omega,Ls hN l h hl k m (i+1) _ (by omega) (by omega) (by simp;omega),aaD hlt,List.map_cons,ν];rfl
theorem Om{N:Nat}(hN:200000<=N)(l:List Rd)(d:Int)(p7:List Rd)(vs:List Vr)(h:∀r∈l,tv r)(hv:∀v∈vs,rq v)(hl:l.length<=100000)(hvl:vs.length<=100000):∀(k m i:Nat) (acc:List bw),i+k=l.length->k<m->acc.length<=i->jM N m l ((l.length:Nat):Int) (i:Int) d p7 vs acc=some (acc++((l.drop i).map yJ++vs.map uD))
 |_,0,_,_,_,h,_=>absurd h (aah _)
 |0,m+1,i,acc,h1,_,h3=>by
  rw[PC];unfold jQ;have:=Ls (N:=N) (by omega) vs hv hvl vs.length N 0 acc (by omega) (by omega) (by omega);rw[show(((0:Nat):Int))=0 from rfl,aax]at this;rw[aD (decide_eq_false (by omega)),aG,this,aar (l:=l) (by omega)];rfl
 |k+1,m+1,i,acc,h1,h2,h3=>by
  have hlt:i<l.length:=by omega
  have hr:=PU (N:=N) (by omega) (h _ (abI hlt));rw[PC];unfold jQ;rw[aE (decide_eq_true (by omega)),cQ (ξ hlt)];show bj (gC N l[i]) _=_;rw[hr,aC,aG,aB (by simp only[aab,aaC];omega),aI (by omega) (by omega),aG,show(i:Int)+1=((i+1:Nat):Int) by omega,Om hN l d p7 vs h hv hl hvl k m (i+1) _ (by omega) (by omega) (by simp;omega),aaD hlt,List.map_cons,ν];rfl
def zv(s:Sg):Prop:=(∀r∈s.2.1,tv r)/\∀v∈s.2.2,rq v
def ry(s:Sg):List bw:=s.2.1.map yJ++s.2.2.map uD
theorem XZ(hN:200000<=N)(h:zv s)(h1:s.2.1.length<=100000)(h2:s.2.2.length<=100000):gH N s=some (ry s):=by unfold gH;have:=Om hN s.2.1 s.1 s.2.1 s.2.2 h.1 h.2 h1 h2 s.2.1.length N 0 [] (by omega) (by omega) (me _);rw[show(((0:Nat):Int))=0 from rfl]at this;rw[this,aaW,aax];rfl
def zR(es:List w7)(k:bw):Bool:=(dA es k).getD false
theorem OS(N m:Nat):eM N (m+1)=eP N (eM N m):=rfl
theorem OP(N m:Nat):eO N (m+1)=eT N (eO N m):=rfl
theorem Q1{N:Nat}(hN:5000<=N)(l:List Rd)(es:List w7)(h:∀r∈l,tv r)(hl:l.length<=100000):∀(k m i:Nat) (acc:List Rd),i+k=l.length->k<m->acc.length<=i->eM N m l ((l.length:Nat):Int) (i:Int) acc es=some (acc++(l.drop i).filter (fun r=>!zR es (yJ r)),es)
 |_,0,_,_,_,h,_=>absurd h (aah _)
 |0,m+1,i,acc,h1,_,_=>by
  rw[OS];unfold eP;rw[aD (decide_eq_false (by omega)),aG,aar (by omega),List.filter_nil,aac]
 |k+1,m+1,i,acc,h1,h2,h3=>by
  have hlt:i<l.length:=by omega
  have hr:=PU (N:=N) (by omega) (h _ (abI hlt));rw[OS];unfold eP;rw[aE (decide_eq_true (by omega)),cQ (ξ hlt)];unfold lC
  (try dsimp only)
  have hr:gC N (l[i].1,(l[i].2.1,(l[i].2.2.1,(l[i].2.2.2.1,(l[i].2.2.2.2.1,l[i].2.2.2.2.2)))))=some (yJ l[i]):=hr;rw[hr,aC,aC];dsimp only;rw[aaD hlt];have nx:=fun acc' h3'=>Q1 hN l es h hl k m (i+1) acc' (by omega) (by omega) h3';cases hb:zR es (yJ l[i])with
  |true=>
   have hb':(dA es (yJ l[i])).getD false=true:=hb;rw[hb',aaF,dB,aG,aC];dsimp only;rw[aI (by omega) (by omega),aG,show(i:Int)+1=((i+1:Nat):Int) by omega,nx acc (by omega),List.filter_cons_of_neg (by rw[hb];decide)]
  |false=>
   have hb':(dA es (yJ l[i])).getD false=false:=hb;rw[hb',abk,mU,aG,aB (by simp only[aab,aaC];omega),aG,aC];dsimp only;rw[aI (by omega) (by omega),aG,show(i:Int)+1=((i+1:Nat):Int) by omega,nx _ (by simp;omega),List.filter_cons_of_pos (by rw[hb];rfl),ν];rfl
theorem PB{N:Nat}(hN:5000<=N)(l:List Vr)(es:List w7)(h:∀r∈l,rq r)(hl:l.length<=100000):∀(k m i:Nat) (acc:List Vr),i+k=l.length->k<m->acc.length<=i->eO N m l ((l.length:Nat):Int) (i:Int) acc es=some (acc++(l.drop i).filter (fun r=>!zR es (uD r)),es)
 |_,0,_,_,_,h,_=>absurd h (aah _)
 |0,m+1,i,acc,h1,_,_=>by
  rw[OP];unfold eT;rw[aD (decide_eq_false (by omega)),aG,aar (by omega),List.filter_nil,aac]
 |k+1,m+1,i,acc,h1,h2,h3=>by
  have hlt:i<l.length:=by omega
  have hv:=h _ (abI hlt);have hq:=hv.2.1;have hr:=OI (N:=N) (by omega) hv (by omega);rw[OP];unfold eT;rw[aE (decide_eq_true (by omega)),cQ (ξ hlt)];unfold lF
  (try dsimp only)
  have hr:gB N (l[i].1,(l[i].2.1,(l[i].2.2.1,(l[i].2.2.2.1,(l[i].2.2.2.2.1,(l[i].2.2.2.2.2.1,(l[i].2.2.2.2.2.2.1,l[i].2.2.2.2.2.2.2)))))))=some (uD l[i]):=hr;rw[hr,aC,aC];dsimp only;rw[aaD hlt];have nx:=fun acc' h3'=>PB hN l es h hl k m (i+1) acc' (by omega) (by omega) h3';cases hb:zR es (uD l[i])with
  |true=>
   have hb':(dA es (uD l[i])).getD false=true:=hb;rw[hb',aaF,dB,aG,aC];dsimp only;rw[aI (by omega) (by omega),aG,show(i:Int)+1=((i+1:Nat):Int) by omega,nx acc (by omega),List.filter_cons_of_neg (by rw[hb];decide)]
  |false=>
   have hb':(dA es (uD l[i])).getD false=false:=hb;rw[hb',abk,mU,aG,aB (by simp only[aab,aaC];omega),aG,aC];dsimp only;rw[aI (by omega) (by omega),aG,show(i:Int)+1=((i+1:Nat):Int) by omega,nx _ (by simp;omega),List.filter_cons_of_pos (by rw[hb];rfl),ν];rfl
def zw(l:List bw)(es:List w7):List w7:=l.foldl (fun e x=>iZ e x true) es
theorem IQ:∀(l:List bw) (es:List w7) (k:bw),zR (zw l es) k=(decide (k∈l)||zR es k)
 |[],es,k=>by simp[zw]
 |x::l,es,k=>by
  have:=IQ l (iZ es x true) k;show zR (zw l (iZ es x true)) k=_;rw[this];unfold zR;rw[ES];by_cases h:k=x
  ·subst h;simp
  ·rw[if_neg h];simp[h]
theorem Ku(N m:Nat):iB N (m+1)=iF N (iB N m):=rfl
theorem L9{N:Nat}(hN:200000<=N)(l:List bw)(b:Sg)(z:Int)(q1:List Rd)(q2:List Vr)(hb:zv b)(hl:l.length<=300000)(h1:b.2.1.length<=100000)(h2:b.2.2.length<=100000):∀(k m i:Nat) (es:List w7),i+k=l.length->k<m->
  iB N m ((l.length:Nat):Int) (i:Int) b.1 b.2.1 b.2.2 z l q1 q2 es=some (b.1,(b.2.1.filter (fun r=>!zR (zw (l.drop i) es) (yJ r)),(b.2.2.filter (fun r=>!zR (zw (l.drop i) es) (uD r)),0)))
 |_,0,_,_,_,h=>absurd h (aah _)
 |0,m+1,i,es,g1,_=>by
  rw[Ku];unfold iF;rw[aD (decide_eq_false (by omega)),aar (by omega)];unfold iH iO;have t1:=Q1 (N:=N) (by omega) b.2.1 es hb.1 h1 b.2.1.length N 0 [] (by omega) (by omega) (me _);have t2:=PB (N:=N) (by omega) b.2.2 es hb.2 h2 b.2.2.length N 0 [] (by omega) (by omega) (me _);rw[show(((0:Nat):Int))=0 from rfl]at t1 t2;rw[t1,aC];dsimp only;rw[t2];simp only[aC,qm,aG,aaW,aax];rfl
 |k+1,m+1,i,es,g1,g2=>by
  have hlt:i<l.length:=by omega
  rw[Ku];unfold iF;rw[aE (decide_eq_true (by omega)),aB (by omega),aB (by omega),π,fO (ξ hlt),aI (by omega) (by omega),aG,aG,aG,show(i:Int)+1=((i+1:Nat):Int) by omega,L9 hN l b z q1 q2 hb hl h1 h2 k m (i+1) _ (by omega) (by omega),aaD hlt];rfl
theorem bRt(hs:zv s){r:Rd}(hr:tv r):yJ r∈ry s↔r∈s.2.1:=by
 unfold ry;rw[aaj,aa6,aa6];constructor
 ·rintro(⟨x,hx,e⟩|⟨x,hx,e⟩)
  ·rw[<-Vz (hs.1 x hx) hr e];exact hx
  ·exact absurd e.symm (Qt hr (hs.2 x hx))
 ·intro h;exact .inl ⟨r,h,rfl⟩
theorem bSh(hs:zv s){r:Vr}(hr:rq r):uD r∈ry s↔r∈s.2.2:=by
 unfold ry;rw[aaj,aa6,aa6];constructor
 ·rintro(⟨x,hx,e⟩|⟨x,hx,e⟩)
  ·exact absurd e (Qt (hs.1 x hx) hr)
  ·rw[<-bF9 (hs.2 x hx) hr e];exact hx
 ·intro h;exact .inr ⟨r,h,rfl⟩
def k9(a b:Sg):Sg:=(b.1,(b.2.1.filter (fun r=>!decide (r∈a.2.1)),b.2.2.filter (fun r=>!decide (r∈a.2.2))))
theorem Yl(hN:17179869184<N)(ha:pw N a)(hb:pw N b)(hsa:l7 a.2.2)(hsb:l7 b.2.2)(hd:a.1=b.1)(oa:zv a)(ob:zv b):cN N a b=some ((k9 a b).1,((k9 a b).2.1,((k9 a b).2.2,0))):=by
 unfold cN;have e1:cI N (a.1,(a.2.1,a.2.2)) (b.1,(b.2.1,b.2.2))=some (l8 N a b):=Ac hN hsa hsb;have:=ha.len;have:=ha.kc;have:=hb.len;have:=hb.kc;have e2:gH N (a.1,(a.2.1,a.2.2))=some (ry a):=XZ (s:=a) (by omega) oa (by omega) (by omega);have li:(ry a).length=a.2.1.length+a.2.2.length:=by unfold ry;simp
 rw[e1,aC,aD (by rw[bne_eq_false_iff_eq];exact wo.2 ⟨ha,hb,hd⟩),e2,aC,aG];have:=L9 (N:=N) (by omega) (ry a) b 0 [] [] ob (by omega) (by omega) (by omega) (ry a).length N 0 [] (by omega) (by omega);rw[show(((0:Nat):Int))=0 from rfl]at this;rw[this,aax];have f1:∀r∈b.2.1,(!zR (zw (ry a) []) (yJ r))=!decide (r∈a.2.1):=fun r hr=>by rw[IQ];have:zR [] (yJ r)=false:=rfl;rw[this,Bool.or_false];exact congrArg _ (decide_eq_decide.2 (bRt oa (ob.1 r hr)))
 have f2:∀r∈b.2.2,(!zR (zw (ry a) []) (uD r))=!decide (r∈a.2.2):=fun r hr=>by rw[IQ];have:zR [] (uD r)=false:=rfl;rw[this,Bool.or_false];exact congrArg _ (decide_eq_decide.2 (bSh oa (ob.2 r hr)))
 rw[List.filter_congr f1,List.filter_congr f2];rfl
theorem X2(hN:17179869184<N)(hsa:l7 a.2.2)(hsb:l7 b.2.2)(h:l8 N a b≠0):cN N a b=some (0,([],([],l8 N a b))):=by unfold cN;have e1:cI N (a.1,(a.2.1,a.2.2)) (b.1,(b.2.1,b.2.2))=some (l8 N a b):=Ac hN hsa hsb;rw[e1,aC,aE (by rw[bne_iff_ne];exact h)]
abbrev CM:=List (TM×Rd)
abbrev pl(x:Rd):Int×Int:=(x.1,x.2.1)
def yf(l:List Rd)(es:CM):CM:=l.foldl (fun e x=>iZ e (pl x) x) es
theorem PI:∀(l:List Rd) (es:CM) (k:Int×Int) (y:Rd),dA (yf l es) k=some y->(y∈l/\pl y=k)\/dA es k=some y
 |[],es,k,y,h=>.inr h
 |x::l,es,k,y,h=>by
  rcases PI l (iZ es (pl x) x) k y h with⟨h1,h2⟩|h1
  ·exact .inl ⟨aaa _ h1,h2⟩
  ·rw[ES]at h1;split at h1
   ·rename_i e;cases h1;exact .inl ⟨aao,e.symm⟩
   ·exact .inr h1
theorem Mg:∀(l:List Rd) (es:CM) (k:Int×Int),(∀z∈l,pl z≠k)->dA (yf l es) k=dA es k
 |[],es,k,h=>rfl
 |x::l,es,k,h=>by have:=Mg l (iZ es (pl x) x) k fun z hz=>h z (aaa _ hz);show dA (yf l (iZ es (pl x) x)) k=_;rw[this,ES,if_neg fun e=>h x aao e.symm]
theorem KX:∀(l:List Rd) (es:CM) (y:Rd),qq l->y∈l->dA (yf l es) (pl y)=some y
 |[],es,y,_,h=>(aaT h).elim
 |x::l,es,y,hs,h=>by
  have hs:=aav.1 hs;show dA (yf l (iZ es (pl x) x)) (pl y)=_;rcases υ.1 h with rfl|h
  ·rw[Mg l _ _ fun z hz e=>by
    have:=hs.1 z hz;have e1:z.1=y.1:=(Prod.mk.inj e).1;have e2:z.2.1=y.2.1:=(Prod.mk.inj e).2;unfold l6 at this;omega,ES,if_pos rfl]
  ·exact KX l _ y hs.2 h
def wj(es:CM)(x:Rd):List (Rd×Rd):=match dA es (pl x)with
 |some o=>if o=x then[]else[(x,o)]
 |none=>[]
theorem LA(o x:Rd):(mF [1,1,1,1,1] (o.1==x.1) (mF [1,1,1,1] (o.2.1==x.2.1) (mF [1,1,1] (o.2.2.1==x.2.2.1) (mF [1,1] (o.2.2.2.1==x.2.2.2.1) (mF [1] (o.2.2.2.2.1==x.2.2.2.2.1) (mF ([]:List Nat) (o.2.2.2.2.2==x.2.2.2.2.2) true))))))=decide (o=x):=by obtain⟨a,b,c,d,e,f⟩:=o;obtain⟨a',b',c',d',e',f'⟩:=x;rw[aa7,decide_eq_true_eq];simp[mF]
theorem Pa(m:Nat):iD (m+1)=iA (iD m):=rfl
theorem NB(N m:Nat):hZ N (m+1)=gY N (hZ N m):=rfl
theorem Ln(l:List Rd)(es:CM)(hl:l.length<=100000):∀(k m i:Nat) (acc:List (Rd×Rd)),i+k=l.length->k<m->acc.length<=i->iD m l ((l.length:Nat):Int) (i:Int) es acc=some (0,acc++(l.drop i).flatMap (wj es))
 |_,0,_,_,_,h,_=>absurd h (aah _)
 |0,m+1,i,acc,h1,_,_=>by
  rw[Pa];unfold iA;rw[aD (decide_eq_false (by omega)),aG,aar (by omega),List.flatMap_nil,aac]
 |k+1,m+1,i,acc,h1,h2,h3=>by
  have hlt:i<l.length:=by omega
  rw[Pa];unfold iA;rw[aE (decide_eq_true (by omega)),cQ (ξ hlt)];simp only[LA];have nx:=fun acc' h3'=>Ln l es hl k m (i+1) acc' (by omega) (by omega) h3';rw[aaD hlt,abo];have hc:wj es l[i]=(match dA es (l[i].1,l[i].2.1)with
   |some o=>if o=l[i]then[]else[(l[i],o)]
   |none=>[]):=rfl
  cases hg:dA es (l[i].1,l[i].2.1)with
  |none=>
   rw[hg]at hc;rw[hc,Option.isSome_none,dB,aG,aC];dsimp only;rw[dB,aG,aC];dsimp only;rw[aI (by omega) (by omega),aG,show(i:Int)+1=((i+1:Nat):Int) by omega,nx acc (by omega)];rfl
  |some o=>
   rw[hg]at hc;rw[hc,Option.isSome_some,mU,aG,aC];dsimp only[Option.getD_some];by_cases e:o=l[i]
   ·rw[decide_eq_true e,aaF,dB,aG,aC];dsimp only;rw[aI (by omega) (by omega),aG,show(i:Int)+1=((i+1:Nat):Int) by omega,nx acc (by omega),if_pos e];rfl
   ·rw[decide_eq_false e,abk,mU,aG,aB (by simp only[aab,aaC];omega),aG,aC];dsimp only;rw[aI (by omega) (by omega),aG,show(i:Int)+1=((i+1:Nat):Int) by omega,nx _ (by simp;omega),if_neg e,ν]
theorem Lc{N:Nat}(hN:200000<=N)(l:List Rd)(a:Sg)(hl:l.length<=100000)(ha:a.2.1.length<=100000):∀(k m i:Nat) (es:CM),i+k=l.length->k<m->hZ N m l ((l.length:Nat):Int) (i:Int) a.1 a.2.1 a.2.2 es=some (0,a.2.1.flatMap (wj (yf (l.drop i) es)))
 |_,0,_,_,_,h=>absurd h (aah _)
 |0,m+1,i,es,h1,_=>by
  rw[NB];unfold gY;have:=Ln a.2.1 es ha a.2.1.length N 0 [] (by omega) (by omega) (me _);rw[show(((0:Nat):Int))=0 from rfl,aax,aaW]at this;rw[aD (decide_eq_false (by omega)),this,aar (l:=l) (by omega)];rfl
 |k+1,m+1,i,es,h1,h2=>by
  have hlt:i<l.length:=by omega
  rw[NB];unfold gY;rw[aE (decide_eq_true (by omega)),cQ (ξ hlt),aI (by omega) (by omega),show(i:Int)+1=((i+1:Nat):Int) by omega,Lc hN l a hl ha k m (i+1) _ (by omega) (by omega),aaD hlt];rfl
def cls(a b:Sg):List (Rd×Rd):=a.2.1.flatMap (wj (yf b.2.1 []))
theorem RU(hN:17179869184<N)(ha:pw N a)(hb:pw N b)(hsa:l7 a.2.2)(hsb:l7 b.2.2)(hd:a.1=b.1):cW N a b=some (0,cls a b):=by unfold cW;have e1:cI N (a.1,(a.2.1,a.2.2)) (b.1,(b.2.1,b.2.2))=some (l8 N a b):=Ac hN hsa hsb;have:=ha.len;have:=hb.len;rw[e1,aC,aD (by rw[bne_eq_false_iff_eq];exact wo.2 ⟨ha,hb,hd⟩)];have:=Lc (N:=N) (by omega) b.2.1 a (by omega) (by omega) b.2.1.length N 0 [] (by omega) (by omega);rw[show(((0:Nat):Int))=0 from rfl]at this;rw[this,aax];rfl
theorem Ux(hN:17179869184<N)(hsa:l7 a.2.2)(hsb:l7 b.2.2)(h:l8 N a b≠0):cW N a b=some (l8 N a b,[]):=by unfold cW;have e1:cI N (a.1,(a.2.1,a.2.2)) (b.1,(b.2.1,b.2.2))=some (l8 N a b):=Ac hN hsa hsb;rw[e1,aC,aE (by rw[bne_iff_ne];exact h)]
theorem OF(hb:qq b.2.1)(d:Int)(ka:∀x∈a.2.1,oz x=d)(kb:∀x∈b.2.1,oz x=d):cls a b=[]↔RC a.2.1 b.2.1:=by
 unfold cls;rw[List.flatMap_eq_nil_iff];constructor
 ·intro h x hx y hy e;have h1:=h x hx;have h2:=KX b.2.1 [] y hb hy;have:pl y=pl x:=Prod.ext e.1.symm e.2.symm;rw[this]at h2;unfold wj at h1;rw[h2]at h1;dsimp only at h1;split at h1
  ·rename_i e;subst e;exact Na _
  ·cases h1
 ·intro h x hx;unfold wj;cases hg:dA (yf b.2.1 []) (pl x)with
  |none=>rfl
  |some o=>
   dsimp only;rcases PI b.2.1 [] (pl x) o hg with⟨h1,h2⟩|h1
   ·have hr:=h x hx o h1 ⟨(Prod.mk.inj h2).1.symm,(Prod.mk.inj h2).2.symm⟩;rw[if_pos (Ex hr (ka x hx) (kb o h1)).1.symm]
   ·cases h1
theorem XT(N:Nat)(l:List Rd)(k:Int):∃b,tZ N l k=some b/\(b=true->(l.length:Int)<=k\/l.length>4000):=by
 unfold tZ;by_cases h1:(l.length:Int)<=k
 ·exact⟨true,by rw[aE (decide_eq_true h1),aC],fun _=>.inl h1⟩
 ·by_cases h2:l.length>4000
  ·exact⟨_,by rw[aD (decide_eq_false h1),aE (decide_eq_true (by omega)),aC],fun _=>.inr h2⟩
  ·exact⟨false,by rw[aD (decide_eq_false h1),aD (decide_eq_false (by omega)),aC],fun h=>by cases h⟩
def B5(l:List Pt):Prop:=l.length<=20/\∀p∈l,p.2.2.1.length<=12/\p.2.2.2.length<=12
theorem KH(m:Nat):iG (m+1)=iE (iG m):=rfl
theorem Rm(l:List Pt)(hl:l.length<=1000):∀(k m i:Nat),i+k=l.length->k<m->∃b,iG m (i:Int) l=some b/\(b=true->∀p∈l.drop i,p.2.2.1.length<=12/\p.2.2.2.length<=12)
 |_,0,_,_,h=>absurd h (aah _)
 |0,m+1,i,h1,_=>by
  rw[KH];unfold iE;rw[aD (decide_eq_false (by omega)),aar (by omega)];exact⟨true,rfl,fun _ p hp=>(aaT hp).elim⟩
 |k+1,m+1,i,h1,h2=>by
  have hlt:i<l.length:=by omega
  obtain⟨b,nx,hb⟩:=Rm l hl k m (i+1) (by omega) (by omega);rw[KH];unfold iE;rw[aE (decide_eq_true (by omega)),cQ (ξ hlt),cQ (ξ hlt),aaD hlt];by_cases h3:l[i].2.2.1.length>12
  ·rw[aE (decide_eq_true (by omega)),aC];exact⟨false,rfl,fun h=>by cases h⟩
  ·rw[aD (decide_eq_false (by omega)),aC];dsimp only;by_cases h4:l[i].2.2.2.length>12
   ·rw[aE (decide_eq_true (by omega))];exact⟨false,rfl,fun h=>by cases h⟩
   ·rw[aD (decide_eq_false (by omega)),aI (by omega) (by omega),show(i:Int)+1=((i+1:Nat):Int) by omega,nx];refine⟨b,rfl,fun h p hp=>?_⟩;rcases υ.1 hp with rfl|hp
    ·exact⟨by omega,by omega⟩
    ·exact hb h p hp
theorem Sp(hN:1000<=N)(l:List Pt):∃b,jP N l=some b/\(b=true->B5 l):=by
 unfold jP;by_cases h:l.length>20
 ·exact⟨false,by rw[aE (decide_eq_true (by omega))],fun h=>by cases h⟩
 ·obtain⟨b,nx,hb⟩:=Rm l (by omega) l.length N 0 (by omega) (by omega);rw[aD (decide_eq_false (by omega))];exact⟨b,nx,fun h'=>⟨by omega,by have:=hb h';rwa[aax]at this⟩⟩
theorem O7(N m:Nat):lS N (m+1)=pI N (lS N m):=rfl
theorem PT{N:Nat}(hN:1000<=N)(l:List Vr)(hl:l.length<=1000):∀(k m i:Nat),i+k=l.length->k<m->∃b,lS N m l (i:Int)=some b/\(b=true->∀v∈l.drop i,B5 (vp v))
 |_,0,_,_,h=>absurd h (aah _)
 |0,m+1,i,h1,_=>by
  rw[O7];unfold pI;rw[aD (decide_eq_false (by omega)),aar (by omega)];exact⟨true,rfl,fun _ p hp=>(aaT hp).elim⟩
 |k+1,m+1,i,h1,h2=>by
  have hlt:i<l.length:=by omega
  obtain⟨b,nx,hb⟩:=PT hN l hl k m (i+1) (by omega) (by omega);obtain⟨c,hc,hc2⟩:=Sp hN (vp l[i]);rw[O7];unfold pI;rw[aE (decide_eq_true (by omega)),cQ (ξ hlt),show l[i].2.2.2.2.2.2.2=vp l[i]from rfl,hc,aC,aaD hlt];cases c with
  |false=>exact⟨false,rfl,fun h=>by cases h⟩
  |true=>
   rw[aaF,dB,aI (by omega) (by omega),show(i:Int)+1=((i+1:Nat):Int) by omega,nx];refine⟨b,rfl,fun h p hp=>?_⟩;rcases υ.1 hp with rfl|hp
   ·exact hc2 rfl
   ·exact hb h p hp
theorem Sv(hN:1000<=N)(l:List Vr)(k:Int):∃b,sU N l k=some b/\(b=true->((l.length:Int)<=k\/l.length>400)/\l.length<=410/\∀v∈l,B5 (vp v)):=by
 unfold sU;have fin:((l.length:Int)<=k\/l.length>400)->∃b,(bj (some (l,decide (((l.length:Nat):Int)>410))) fun w3=>bk (w3.2) (some (false)) (lS N N w3.1 0))=some b/\(b=true->((l.length:Int)<=k\/l.length>400)/\l.length<=410/\∀v∈l,B5 (vp v)):=fun h0=>by
  rw[aC];dsimp only;by_cases h:l.length>410
  ·rw[aE (decide_eq_true (by omega))];exact⟨false,rfl,fun h=>by cases h⟩
  ·obtain⟨b,nx,hb⟩:=PT hN l (by omega) l.length N 0 (by omega) (by omega);rw[aD (decide_eq_false (by omega))];exact⟨b,nx,fun h'=>⟨h0,by omega,by have:=hb h';rwa[aax]at this⟩⟩
 by_cases h1:(l.length:Int)>k
 ·rw[aE (decide_eq_true h1)];by_cases h2:l.length<=400
  ·rw[aE (decide_eq_true (by omega)),aC];exact⟨false,rfl,fun h=>by cases h⟩
  ·rw[aD (decide_eq_false (by omega))];exact fin (.inr (by omega))
 ·rw[aD (decide_eq_false h1)];exact fin (.inl (by omega))
structure yb (s:Sg):Prop where
 rd:s.2.1.length<=30\/s.2.1.length>4000
 vs:s.2.2.length<=30\/s.2.2.length>400
 vl:s.2.2.length<=410
 pt:∀v∈s.2.2,B5 (vp v)
theorem XK(hN:1000<=N)(s:Sg):∃b,pR N s 30=some b/\(b=true->yb s):=by unfold pR;obtain⟨b,hb,hb2⟩:=XT N s.2.1 30;obtain⟨c,hc,hc2⟩:=Sv hN s.2.2 30;rw[hb,aC,hc,aC,xb,aC];refine⟨_,rfl,fun h=>?_⟩;rw[μ]at h;obtain⟨h1,h2,h3⟩:=hc2 h.2;have h4:=hb2 h.1;exact⟨by omega,by omega,h2,h3⟩
theorem FQ(hN:1000<=N)(s:Sg):∃b,nB N s=some b/\(b=true->yb s):=by unfold nB;obtain⟨b,hb,h⟩:=XK hN s;have hb:pR N (s.1,(s.2.1,s.2.2)) 30=some b:=hb;rw[hb,aC];exact⟨b,rfl,h⟩
theorem yb.sm(h:yb s):l7 s.2.2:=fun v hv p hp=>by have:=(h.pt v hv).2 p hp;exact⟨by omega,by omega⟩
theorem yb.pl(h:yb s):∀v∈s.2.2,(vp v).length<=100000:=fun v hv=>by have:=(h.pt v hv).1;omega
theorem JQ{α:Type}[DecidableEq α]{l m:List α}{i:Nat}(h1:i<l.length)(h2:i<m.length):decide (l.drop i=m.drop i)=(decide (l[i]=m[i])&&decide (l.drop (i+1)=m.drop (i+1))):=by rw[aa7,μ,decide_eq_true_eq,decide_eq_true_eq,decide_eq_true_eq,aaD h1,aaD h2,List.cons_eq_cons]
theorem Lv(m:Nat):nZ (m+1)=nN (nZ m):=rfl
theorem Nn(a b:List Rd)(hl:a.length=b.length)(hb:a.length<=1000000):∀(k m i:Nat),i+k=a.length->k<m->nZ m a b (i:Int)=some (decide (a.drop i=b.drop i))
 |_,0,_,_,h=>absurd h (aah _)
 |0,m+1,i,h1,_=>by
  rw[Lv];unfold nN;rw[aD (decide_eq_false (by omega)),aar (by omega),aar (by omega)];rfl
 |k+1,m+1,i,h1,h2=>by
  have ha:i<a.length:=by omega
  have hb':i<b.length:=by omega
  have nx:=Nn a b hl hb k m (i+1) (by omega) (by omega);rw[Lv];unfold nN;rw[aE (decide_eq_true (by omega)),cQ (ξ ha),cQ (ξ hb'),LA,JQ ha hb'];cases decide (a[i]=b[i])with
  |false=>rfl
  |true=>rw[aaF,dB,aI (by omega) (by omega),show(i:Int)+1=((i+1:Nat):Int) by omega,nx,acv]
theorem T2{a b:List Rd}(hN:a.length<N)(hb:a.length<=1000000):nS N a b=some (decide (a=b)):=by
 unfold nS;by_cases h:a.length=b.length
 ·have:=Nn a b h hb a.length N 0 (by omega) hN;rw[show(((0:Nat):Int))=0 from rfl,aax,aax]at this;rw[aD (by rw[bne_eq_false_iff_eq];omega),this]
 ·rw[aE (by rw[bne_iff_ne];omega),decide_eq_false fun e=>h (by rw[e])]
theorem De(o x:Pt):(oJ [(Sh.s 0),(Sh.s 2),(Sh.s 2)] (o.1==x.1) (oJ [(Sh.s 2),(Sh.s 2)] (o.2.1==x.2.1) (oJ [(Sh.s 2)] (o.2.2.1==x.2.2.1) (oJ ([]:(List Sh)) (o.2.2.2==x.2.2.2) true))))=decide (o=x):=by obtain⟨a,b,c,d⟩:=o;obtain⟨a',b',c',d'⟩:=x;rw[aa7,decide_eq_true_eq];simp[oJ]
theorem NP(m:Nat):hH (m+1)=gZ (hH m):=rfl
theorem N3(a b:List Pt)(hl:a.length=b.length)(hb:a.length<=1000000):∀(k m i:Nat),i+k=a.length->k<m->hH m (i:Int) a b=some (decide (a.drop i=b.drop i))
 |_,0,_,_,h=>absurd h (aah _)
 |0,m+1,i,h1,_=>by
  rw[NP];unfold gZ;rw[aD (decide_eq_false (by omega)),aar (by omega),aar (by omega)];rfl
 |k+1,m+1,i,h1,h2=>by
  have ha:i<a.length:=by omega
  have hb':i<b.length:=by omega
  have nx:=N3 a b hl hb k m (i+1) (by omega) (by omega);rw[NP];unfold gZ;rw[aE (decide_eq_true (by omega)),cQ (ξ ha),cQ (ξ hb'),De,JQ ha hb'];cases decide (a[i]=b[i])with
  |false=>rfl
  |true=>rw[aaF,dB,aI (by omega) (by omega),show(i:Int)+1=((i+1:Nat):Int) by omega,nx,acv]
theorem Y0{a b:List Pt}(hN:a.length<N)(hb:a.length<=1000000):jU N a b=some (decide (a=b)):=by
 unfold jU;by_cases h:a.length=b.length
 ·have:=N3 a b h hb a.length N 0 (by omega) hN;rw[show(((0:Nat):Int))=0 from rfl,aax,aax]at this;rw[aD (by rw[bne_eq_false_iff_eq];omega),this]
 ·rw[aE (by rw[bne_iff_ne];omega),decide_eq_false fun e=>h (by rw[e])]
theorem R8{a b:Vr}(hN:(vp a).length<N)(hb:(vp a).length<=1000000):oD N a b=some (decide (a=b)):=by
 unfold oD;rw[show a.2.2.2.2.2.2.2=vp a from rfl,show b.2.2.2.2.2.2.2=vp b from rfl,Y0 hN hb,aC];simp only[xb,aC];refine congrArg some ?_;obtain⟨a1,a2,a3,a4,a5,a6,a7,a8⟩:=a;obtain⟨b1,b2,b3,b4,b5,b6,b7,b8⟩:=b;rw[aa7,decide_eq_true_eq];simp only[μ,decide_eq_true_eq,beq_iff_eq,Prod.mk.injEq];constructor
 ·rintro⟨h8,h1,h2,h3,h4,h5,h6,h7⟩;exact⟨h1,h2,h3,h4,h5,h6,h7,h8⟩
 ·rintro⟨h1,h2,h3,h4,h5,h6,h7,h8⟩;exact⟨h8,h1,h2,h3,h4,h5,h6,h7⟩
theorem PQ(N m:Nat):iT N (m+1)=iX N (iT N m):=rfl
theorem NY{N:Nat}(a b:List Vr)(hp:∀v∈a,(vp v).length<N/\(vp v).length<=1000000)(hl:a.length=b.length)(hb:a.length<=1000000):∀(k m i:Nat),i+k=a.length->k<m->iT N m a b (i:Int)=some (decide (a.drop i=b.drop i))
 |_,0,_,_,h=>absurd h (aah _)
 |0,m+1,i,h1,_=>by
  rw[PQ];unfold iX;rw[aD (decide_eq_false (by omega)),aar (by omega),aar (by omega)];rfl
 |k+1,m+1,i,h1,h2=>by
  have ha:i<a.length:=by omega
  have hb':i<b.length:=by omega
  have nx:=NY a b hp hl hb k m (i+1) (by omega) (by omega);have hq:=hp _ (abI ha);rw[PQ];unfold iX;rw[aE (decide_eq_true (by omega)),cQ (ξ ha),cQ (ξ hb')];show bj (oD N a[i] b[i]) _=_;rw[R8 hq.1 hq.2,aC,JQ ha hb'];cases decide (a[i]=b[i])with
  |false=>rfl
  |true=>rw[aaF,dB,aI (by omega) (by omega),show(i:Int)+1=((i+1:Nat):Int) by omega,nx,acv]
theorem Bm{a b:List Vr}(hp:∀v∈a,(vp v).length<N/\(vp v).length<=1000000)(hN:a.length<N)(hb:a.length<=1000000):iK N a b=some (decide (a=b)):=by
 unfold iK;by_cases h:a.length=b.length
 ·have:=NY a b hp h hb a.length N 0 (by omega) hN;rw[show(((0:Nat):Int))=0 from rfl,aax,aax]at this;rw[aD (by rw[bne_eq_false_iff_eq];omega),this]
 ·rw[aE (by rw[bne_iff_ne];omega),decide_eq_false fun e=>h (by rw[e])]
theorem M1(h1:a.2.1.length<N)(h2:a.2.1.length<=1000000)(hp:∀v∈a.2.2,(vp v).length<N/\(vp v).length<=1000000)(h3:a.2.2.length<N)(h4:a.2.2.length<=1000000):cO N a b=some (decide (a=b)):=by
 unfold cO;rw[T2 h1 h2,aC,Bm hp h3 h4,aC];simp only[xb,aC];refine congrArg some ?_;obtain⟨a1,a2,a3⟩:=a;obtain⟨b1,b2,b3⟩:=b;rw[aa7,decide_eq_true_eq];simp only[μ,decide_eq_true_eq,beq_iff_eq,Prod.mk.injEq];constructor
 ·rintro⟨h1,h2,h3⟩;exact⟨h3,h1,h2⟩
 ·rintro⟨h1,h2,h3⟩;exact⟨h2,h3,h1⟩
structure Gd (N:Nat) (s:Sg):Prop where
 ok:pw N s
 sm:l7 s.2.2
 pl:∀v∈s.2.2,(vp v).length<=100000
 os:zv s
theorem Gd.sub{t:Sg}(h:Gd N s)(h1:t.1=s.1)(h2:t.2.1.Sublist s.2.1)(h3:t.2.2.Sublist s.2.2):Gd N t:=by have l1:=h2.length_le;have l2:=h3.length_le;have ok:=h.ok;refine⟨⟨by rw[h1];exact ok.day,by have:=ok.len;omega,fun y hy=>ok.rr y (h2.subset hy),ok.nu.sublist h2,by have:=ok.kc;omega,fun y hy=>ok.vr y (h3.subset hy),ok.pn.sublist h3,fun y hy=>by rw[h1];exact ok.kn y (h2.subset hy),fun y hy=>by rw[h1];exact ok.sa y (h3.subset hy)⟩,fun y hy=>h.sm y (h3.subset hy),fun y hy=>h.pl y (h3.subset hy),fun y hy=>h.os.1 y (h2.subset hy),fun y hy=>h.os.2 y (h3.subset hy)⟩
theorem SU.gd(h:SU N a b c)(ha:Gd N a)(hb:Gd N b):Gd N c:=by
 refine⟨h.ok,fun y hy=>?_,fun y hy=>?_,fun y hy=>?_,fun y hy=>?_⟩
 ·rcases(h.vs y).1 hy with hy|hy
  ·exact ha.sm y hy
  ·exact hb.sm y hy
 ·rcases(h.vs y).1 hy with hy|hy
  ·exact ha.pl y hy
  ·exact hb.pl y hy
 ·rcases(h.rd y).1 hy with hy|hy
  ·exact ha.os.1 y hy
  ·exact hb.os.1 y hy
 ·rcases(h.vs y).1 hy with hy|hy
  ·exact ha.os.2 y hy
  ·exact hb.os.2 y hy
theorem pL(hN:17179869184<N)(ha:Gd N a)(hb:Gd N b)(hd:a.1=b.1)(h1:a.2.1.length+b.2.1.length<=4000)(h2:a.2.2.length+b.2.2.length<=400):
  (¬SC a b/\aT N a b=some (0,([],([],24))))\/(SC a b/\∃c,SU N a b c/\aT N a b=some (c.1,(c.2.1,(c.2.2,0)))):=
 Xp hN ha.pl hb.pl ha.ok hb.ok ha.sm hb.sm hd h1 h2
theorem bLb{a b:List Rd}(h:RC a b):RC b a:=fun x hx y hy e=>by have:=h y hy x hx (vM e);unfold rep at*;omega
theorem wJ(h:SC a b):SC b a:=⟨bLb h.1,fun x hx y hy=>h.2 x (by simp only[aaj]at*;exact hx.symm) y (by simp only[aaj]at*;exact hy.symm)⟩
theorem CJ(h:pw N a):SC a a:=by
 have hr:∀{l:List Rd},qq l->∀x∈l,∀y∈l,kr x y->x=y:=fun{l} hs=>by
  induction l with
  |nil=>intro x hx;exact(aaT hx).elim
  |cons z l ih=>
   have hs:=aav.1 hs;intro x hx y hy e;rcases υ.1 hx with rfl|hx'<;>rcases υ.1 hy with rfl|hy'
   ·rfl
   ·exact(I5 (hs.1 y hy') e).elim
   ·exact(HX (hs.1 x hx') e).elim
   ·exact ih hs.2 x hx' y hy' e
 have hv:∀{l:List Vr},rz l->∀x∈l,∀y∈l,x.2.1=y.2.1->x.2.2.1=y.2.2.1->x=y:=fun{l} hs=>by
  induction l with
  |nil=>intro x hx;exact(aaT hx).elim
  |cons z l ih=>
   have hs:=aav.1 hs;intro x hx y hy e e';rcases υ.1 hx with rfl|hx'<;>rcases υ.1 hy with rfl|hy'
   ·rfl
   ·have:=hs.1 y hy';unfold ik at this;omega
   ·have:=hs.1 x hx';unfold ik at this;omega
   ·exact ih hs.2 x hx' y hy' e e'
 exact⟨fun x hx y hy e=>by rw[hr h.nu x hx y hy e];exact Na _,fun x hx y hy e e'=>by
  have hx:x∈a.2.2:=by simpa using hx
  have hy:y∈a.2.2:=by simpa using hy
  exact hv h.pn x hx y hy e e'⟩
theorem Yr{d:Sg}(h:SC a b)(hs:SC c c)(ht:SC d d)(h1:∀x∈c.2.1,x∈a.2.1)(h2:∀x∈d.2.1,x∈b.2.1)(h3:∀x∈c.2.2,x∈a.2.2)(h4:∀x∈d.2.2,x∈b.2.2):SC c d:=by
 refine⟨fun x hx y hy e=>h.1 x (h1 x hx) y (h2 y hy) e,fun x hx y hy=>h.2 x ?_ y ?_⟩
 ·rcases aaj.1 hx with hx|hx
  ·exact aaj.2 (.inl (h3 x hx))
  ·exact aaj.2 (.inr (h4 x hx))
 ·rcases aaj.1 hy with hy|hy
  ·exact aaj.2 (.inl (h3 y hy))
  ·exact aaj.2 (.inr (h4 y hy))
theorem K3{u:Sg}(h:SU N a b u)(hab:SC a b):SC u c↔SC a c/\SC b c:=by
 constructor
 ·intro hu;refine⟨⟨fun x hx=>hu.1 x ((h.rd x).2 (.inl hx)),fun x hx y hy=>hu.2 x ?_ y ?_⟩,⟨fun x hx=>hu.1 x ((h.rd x).2 (.inr hx)),fun x hx y hy=>hu.2 x ?_ y ?_⟩⟩
  ·rcases aaj.1 hx with hx|hx
   ·exact aaj.2 (.inl ((h.vs x).2 (.inl hx)))
   ·exact aaj.2 (.inr hx)
  ·rcases aaj.1 hy with hy|hy
   ·exact aaj.2 (.inl ((h.vs y).2 (.inl hy)))
   ·exact aaj.2 (.inr hy)
  ·rcases aaj.1 hx with hx|hx
   ·exact aaj.2 (.inl ((h.vs x).2 (.inr hx)))
   ·exact aaj.2 (.inr hx)
  ·rcases aaj.1 hy with hy|hy
   ·exact aaj.2 (.inl ((h.vs y).2 (.inr hy)))
   ·exact aaj.2 (.inr hy)
 ·rintro⟨h1,h2⟩;refine⟨fun x hx y hy e=>?_,fun x hx y hy e e'=>?_⟩
  ·rcases(h.rd x).1 hx with hx|hx
   ·exact h1.1 x hx y hy e
   ·exact h2.1 x hx y hy e
  ·have key:∀z,z∈u.2.2++c.2.2->z∈a.2.2\/z∈b.2.2\/z∈c.2.2:=fun z hz=>by
    rcases aaj.1 hz with hz|hz
    ·rcases(h.vs z).1 hz with hz|hz
     ·exact .inl hz
     ·exact .inr (.inl hz)
    ·exact .inr (.inr hz)
   have ap:=@aaj Vr;rcases key x hx with hx|hx|hx<;>rcases key y hy with hy|hy|hy
   ·exact h1.2 x (ap.2 (.inl hx)) y (ap.2 (.inl hy)) e e'
   ·exact hab.2 x (ap.2 (.inl hx)) y (ap.2 (.inr hy)) e e'
   ·exact h1.2 x (ap.2 (.inl hx)) y (ap.2 (.inr hy)) e e'
   ·exact hab.2 x (ap.2 (.inr hx)) y (ap.2 (.inl hy)) e e'
   ·exact h2.2 x (ap.2 (.inl hx)) y (ap.2 (.inl hy)) e e'
   ·exact h2.2 x (ap.2 (.inl hx)) y (ap.2 (.inr hy)) e e'
   ·exact h1.2 x (ap.2 (.inr hx)) y (ap.2 (.inl hy)) e e'
   ·exact h2.2 x (ap.2 (.inr hx)) y (ap.2 (.inl hy)) e e'
   ·exact h1.2 x (ap.2 (.inr hx)) y (ap.2 (.inr hy)) e e'
theorem I2{a' b' c':Sg}(h:SU N a b c)(h':SU N a' b' c')(hd:a.1=a'.1)(h1:∀x,(x∈a.2.1\/x∈b.2.1)↔(x∈a'.2.1\/x∈b'.2.1))(h2:∀x,(x∈a.2.2\/x∈b.2.2)↔(x∈a'.2.2\/x∈b'.2.2)):c=c':=
 JA h.ok h'.ok (by rw[h.day,h'.day,hd]) (fun x=>by rw[h.rd,h'.rd,h1]) (fun x=>by rw[h.vs,h'.vs,h2])
theorem D2(hN:17179869184<N)(ha:Gd N a):cO N a b=some (decide (a=b)):=by have:=ha.ok.len;have:=ha.ok.kc;exact M1 (by omega) (by omega) (fun v hv=>by have:=ha.pl v hv;exact⟨by omega,by omega⟩) (by omega) (by omega)
theorem MH(hN:17179869184<N)(ha:Gd N a)(hb:Gd N b)(hd:a.1=b.1):cN N a b=some ((k9 a b).1,((k9 a b).2.1,((k9 a b).2.2,0))):=
 Yl hN ha.ok hb.ok ha.sm hb.sm hd ha.os hb.os
theorem RA(hb:Gd N b):Gd N (k9 a b):=hb.sub rfl List.filter_sublist List.filter_sublist
theorem Z7(hN:17179869184<N)(ha:Gd N a)(hb:Gd N b)(hd:a.1=b.1):cW N a b=some (0,cls a b):=
 RU hN ha.ok hb.ok ha.sm hb.sm hd
theorem yC:x∈(k9 a b).2.1↔x∈b.2.1/\x∉a.2.1:=by unfold k9;simp
theorem zF{x:Vr}:x∈(k9 a b).2.2↔x∈b.2.2/\x∉a.2.2:=by unfold k9;simp
def CI(s:Sg):Prop:=(∀r∈s.2.1,tv r)/\∀v∈s.2.2,(∀x∈vl v,jo x)/\∀p∈vp v,jo p.1
theorem yb.gd(h:yb s)(ha:CI s)(hok:pw N s):Gd N s:=by refine⟨hok,h.sm,h.pl,ha.1,fun v hv=>⟨(ha.2 v hv).1,by have:=(h.pt v hv).1;omega,fun p hp=>?_⟩⟩;have:=(h.pt v hv).2 p hp;exact⟨(ha.2 v hv).2 p hp,by omega,by omega⟩
theorem zO(x:Sg):((x.1,(x.2.1,x.2.2)):Sg)=x:=rfl
theorem J0{a:Int}(h:a≠0):(a !=0)=true:=by rw[bne_iff_ne];exact h
theorem Y1{C:Bool}{γ:Type}{T:β}{s:Option Bool}{K:Bool×β->Option γ}{r:Option γ}(h:C=true->s=some true)(hk:K (false,T)=r):bj (bk C (bj s fun v=>some ((!v),T)) (some (false,T))) K=r:=by
 cases C with
 |false=>exact hk
 |true=>rw[mU,h rfl];exact hk
theorem bOn(hN:17179869184<N)(hsa:l7 a.2.2)(hsb:l7 b.2.2)(h:l8 N a b≠0):l8 N b a≠0:=fun h'=>by obtain⟨h1,h2,h3⟩:=wo.1 h';exact h (wo.2 ⟨h2,h1,h3.symm⟩)
theorem VY(hN:17179869184<N)(hs:gG N=some true)(a b c:Sg)(ha:CI a)(hb:CI b)(hc:CI c):fH N a b c=some true:=by
 unfold fH;obtain⟨x,hx,fx⟩:=FQ (N:=N) (by omega) a;obtain⟨y,hy,fy⟩:=FQ (N:=N) (by omega) b;obtain⟨z,hz,fz⟩:=FQ (N:=N) (by omega) c;simp only[hs,aC,zO];rw[hx,aC];cases x with
 |false=>rw[abk,mU,aC];rfl
 |true=>
  rw[aaF,dB,hy,aC];cases y with
  |false=>rw[abk,mU,aC];rfl
  |true=>
   rw[aaF,dB,hz,aC,aC];dsimp only;cases z with
   |false=>rfl
   |true=>
    rw[aaF,dB];have fa:=fx rfl;have fb:=fy rfl;have fc:=fz rfl;simp only[zO];by_cases hk:l8 N a b=0
    ·obtain⟨oa,ob,hd⟩:=wo.1 hk;have ga:=fa.gd ha oa;have gb:=fb.gd hb ob;have la:=oa.len;have lb:=ob.len;have va:=oa.kc;have vb:=ob.kc;have la':=fa.rd;have lb':=fb.rd;have va':=fa.vs;have vb':=fb.vs;rw[Z7 hN ga gb hd,MH hN ga gb hd];rcases pL hN ga gb hd (by omega) (by omega)with⟨n1,m1⟩|⟨y1,ab,u1,m1⟩
     ·rcases pL hN gb ga hd.symm (by omega) (by omega)with⟨n2,m2⟩|⟨y2,_⟩
      ·rw[m1,m2];simp only[aC,aG,show((24:Int)!=0)=true from rfl,mU];rw[aE (by rfl),aD (by rfl),aD (by rfl)];by_cases h1:RC a.2.1 b.2.1
       ·have hne:¬ru (a.2.2++b.2.2):=fun h=>n1 ⟨h1,h⟩;have e1:a.2.2≠[]:=fun e=>hne (by
         rw[e,aaW];have:=(CJ ob).2;intro x hx y hy;exact this x (aaj.2 (.inl hx)) y (aaj.2 (.inl hy)))
        have e2:b.2.2≠[]:=fun e=>hne (by
         rw[e,aac];have:=(CJ oa).2;intro x hx y hy;exact this x (aaj.2 (.inl hx)) y (aaj.2 (.inl hy)))
        have l1:=ab4.2 e1;have l2:=ab4.2 e2;cases(decide (((cls a b).length:Int)>0))with
        |true=>rfl
        |false=>
         rw[dB,aE (decide_eq_true (by omega)),decide_eq_true (show((b.2.2.length:Nat):Int)>0 by omega),aC]
       ·have:cls a b≠[]:=fun e=>h1 ((OF ob.nu a.1 oa.kn (fun x hx=>(ob.kn x hx).trans hd.symm)).1 e);have l1:=ab4.2 this;rw[aE (decide_eq_true (by omega)),aC]
      ·exact absurd (wJ y2) n1
     ·rcases pL hN gb ga hd.symm (by omega) (by omega)with⟨n2,_⟩|⟨y2,ba,u2,m2⟩
      ·exact absurd (wJ y1) n2
      ·have gab:=u1.gd ga gb;have hba:ba=ab:=I2 u2 u1 hd.symm (fun x=>or_comm) (fun x=>or_comm);subst hba;have gm:=RA (a:=a) gb;have hcl:cls a b=[]:=(OF ob.nu a.1 oa.kn (fun x hx=>(ob.kn x hx).trans hd.symm)).2 y1.1;rw[m1,m2];simp only[aC,aG,show((0:Int)!=0)=false from rfl,dB,zO];have lab:=u1.len;have vab:=u1.kc;have lm:(k9 a b).2.1.length<=b.2.1.length:=List.length_filter_le _ _;have vm:(k9 a b).2.2.length<=b.2.2.length:=List.length_filter_le _ _;rcases pL hN ga ga rfl (by omega) (by omega)with⟨n3,_⟩|⟨_,aa,u3,m3⟩
       ·exact absurd (CJ oa) n3
       have haa:aa=a:=JA u3.ok oa u3.day (fun x=>by rw[u3.rd,or_self]) (fun x=>by rw[u3.vs,or_self]);subst haa;have hdm:aa.1=(k9 aa b).1:=hd;rcases pL hN ga gm hdm (by omega) (by omega)with⟨n4,_⟩|⟨_,pt,u4,m4⟩
       ·refine absurd (Yr y1 (CJ oa) (CJ gm.ok) (fun x h=>h) (fun x h=>(yC.1 h).1) (fun x h=>h) (fun x h=>(zF.1 h).1)) n4
       have hpt:pt=ba:=I2 u4 u1 rfl (fun x=>by rw[yC];by_cases h:x∈aa.2.1<;>simp[h]) (fun x=>by rw[zF];by_cases h:x∈aa.2.2<;>simp[h]);subst hpt;have hdb:pt.1=b.1:=u1.day.trans hd;have hn1:(k9 pt b).2.1=[]:=acm.2 fun x hx=>(yC.1 hx).2 ((u1.rd x).2 (.inr (yC.1 hx).1));have hn2:(k9 pt b).2.2=[]:=acm.2 fun x hx=>(zF.1 hx).2 ((u1.vs x).2 (.inr (zF.1 hx).1));rw[m3,aC,m4,aC,MH hN gab gb hdb,aC];simp only[zO,hcl,hn1,hn2,D2 hN gab,D2 hN ga,decide_true,aaF,dB,aC,show((0:Int)!=0)=false from rfl];rw[aD (by rfl),aI (by decide) (by decide),aC];dsimp only;rw[aD (by rfl)];have lck:-9223372036854775808<=(((k9 aa b).2.1.length:Nat):Int)+(((k9 aa b).2.2.length:Nat):Int)/\(((k9 aa b).2.1.length:Nat):Int)+(((k9 aa b).2.2.length:Nat):Int)<=9223372036854775807:=by omega
       have hnew:((((k9 aa b).2.1.length:Nat):Int)+(((k9 aa b).2.2.length:Nat):Int)==0)=true->pt=aa:=fun h=>by
        rw[beq_iff_eq]at h;have e1:(k9 aa b).2.1=[]:=aco (by omega);have e2:(k9 aa b).2.2=[]:=aco (by omega);refine JA u1.ok oa u1.day (fun x=>?_) (fun x=>?_)
        ·rw[u1.rd];refine⟨?_,.inl⟩;rintro(h|h)
         ·exact h
         ·refine acO fun hn=>?_;have:=yC.2 ⟨h,hn⟩;rw[e1]at this;exact aaT this
        ·rw[u1.vs];refine⟨?_,.inl⟩;rintro(h|h)
         ·exact h
         ·refine acO fun hn=>?_;have:=zF.2 ⟨h,hn⟩;rw[e2]at this;exact aaT this
       rw[aI lck.1 lck.2];refine Y1 (fun h=>(D2 (a:=pt) (b:=aa) hN gab).trans (congrArg some (decide_eq_true (hnew h)))) ?_;dsimp only;rw[dB];simp only[zO];have lcc:=fc.rd;have vcc:=fc.vs;by_cases hbc:l8 N b c=0
       ·obtain⟨_,oc,hdc⟩:=wo.1 hbc;have gc:=fc.gd hc oc;have lc:=oc.len;have vc:=oc.kc;have hpc:pt.1=c.1:=hdb.trans hdc;rcases pL hN gb gc hdc (by omega) (by omega)with⟨n5,m5⟩|⟨y5,bc,u5,m5⟩
        ·rw[m5,aC];rcases pL hN gab gc hpc (by omega) (by omega)with⟨_,m6⟩|⟨_,d,_,m6⟩<;>rw[m6,aC]<;>rfl
        ·have gbc:=u5.gd gb gc;have l5:=u5.len;have v5:=u5.kc;have hdbc:aa.1=bc.1:=by rw[u5.day];exact hd
         rw[m5,aC];have e1:=K3 (c:=c) u1 y1;have e2:=K3 (c:=aa) u5 y5;rcases pL hN gab gc hpc (by omega) (by omega)with⟨n6,m6⟩|⟨y6,d,u6,m6⟩
         ·rcases pL hN ga gbc hdbc (by omega) (by omega)with⟨n7,m7⟩|⟨y7,d',u7,m7⟩
          ·rw[m6,aC];simp only[show((0:Int)!=0)=false from rfl,dB,zO];rw[m7,aC,aE (by rfl)];have hz:cO N (0,([],[])) (0,([],[]))=some (decide (((0,([],[])):Sg)=(0,([],[])))):=M1 (a:=(0,([],[]))) (by show 0<N;omega) (aa2 _) (fun v hv=>(aaT hv).elim) (by show 0<N;omega) (aa2 _);rw[hz];rfl
          ·exact absurd (e1.2 ⟨wJ (e2.1 (wJ y7)).2,y5⟩) n6
         ·rcases pL hN ga gbc hdbc (by omega) (by omega)with⟨n7,m7⟩|⟨y7,d',u7,m7⟩
          ·exact absurd (wJ (e2.2 ⟨wJ y1,wJ (e1.1 y6).1⟩)) n7
          ·have:d=d':=I2 u6 u7 u1.day (fun x=>by rw[u1.rd,u5.rd,or_assoc]) (fun x=>by rw[u1.vs,u5.vs,or_assoc]);subst this;rw[m6,aC];simp only[show((0:Int)!=0)=false from rfl,dB,zO];rw[m7,aC,aE (by rfl)];have:=D2 (b:=d) hN (u6.gd gab gc);simp only[zO];rw[this,decide_eq_true rfl];rfl
       ·have hpc:l8 N pt c≠0:=fun h=>by obtain⟨_,oc,h3⟩:=wo.1 h;exact hbc (wo.2 ⟨ob,oc,hdb.symm.trans h3⟩)
        rw[Es hN fb.sm fc.sm hbc,Es hN gab.sm fc.sm hpc];simp only[aC,J0 hbc,mU]
    ·have hk':=bOn hN fa.sm fb.sm hk;rw[Es hN fa.sm fb.sm hk,Es hN fb.sm fa.sm hk',Ux hN fa.sm fb.sm hk,X2 hN fa.sm fb.sm hk];simp only[aC,aG,J0 hk,J0 hk',mU];rfl
end Go.Proofs.Tryz
set_option maxRecDepth 8000
namespace Go.Proofs.Tryz
open Go.Eng Go.RowKit
theorem RQ:gG 17179869200=some true:=by kernel_rfl
end Go.Proofs.Tryz
set_option maxRecDepth 8000
namespace Go.Proofs.Tryz
open Go.Eng Go.RowKit Go.Lib
abbrev BJ:Ty:=tD
abbrev pW:List Ty:=[BJ,BJ,BJ]
theorem ac{a:Int}{l:List Int}(h:jo a)(hl:∀x∈l,jo x):∀x∈a::l,jo x:=fun x hx=>by
 rcases υ.1 hx with rfl|hx
 ·exact h
 ·exact hl x hx
theorem an:∀x∈([]:List Int),jo x:=fun x hx=>(aaT hx).elim
theorem nO{n:Int}(h:IntKind.min .i64<=n/\n<=IntKind.max .i64):jo n:=by
 have e1:IntKind.min .i64=-9223372036854775808:=by decide
 have e2:IntKind.max .i64=9223372036854775807:=by decide
 rw[e1,e2]at h;exact h
theorem GG(x:Sg)(h:BJ.ok x):CI x:=by
 obtain⟨_,⟨_,hr⟩,⟨_,hv⟩⟩:=h;refine⟨fun r h=>?_,fun v h=>?_⟩
 ·obtain⟨r1,r2,r3,r4,r5,r6⟩:=hr r h;exact ac I7.2 (ac (nO r1) (ac (nO r2) (ac (nO r3) (ac (nO r4) (ac (nO r5) (ac (nO r6) an))))))
 ·obtain⟨v1,v2,v3,v4,v5,v6,v7,_,vq⟩:=hv v h;exact⟨ac ⟨by decide,by decide⟩ (ac (nO v1) (ac (nO v2) (ac (nO v3) (ac (nO v4) (ac (nO v5) (ac (nO v6) (ac (nO v7) an))))))),fun p hp=>nO (vq p hp).1⟩
theorem Zu(N:Nat)(x0 x1 x2:BJ.T)(h:fH N x0 x1 x2=some true):df Tryz.prog 6 (Aq pW (x0,(x1,(x2,())))) [] (.D (.B true)) [] []:=
 letI:YL:=⟨0⟩
 vC N (x0,(x1,(x2,()))) true h [] rfl
theorem qx:∀x:cr pW,Ct pW x->df Tryz.prog 6 (Aq pW x) [] (.D (.B true)) [] []
 |(x0,(x1,(x2,()))),hx=>Zu 17179869200 x0 x1 x2 (VY (by omega) RQ x0 x1 x2 (GG x0 hx.1) (GG x1 hx.2.1) (GG x2 hx.2.2.1))
end Go.Proofs.Tryz

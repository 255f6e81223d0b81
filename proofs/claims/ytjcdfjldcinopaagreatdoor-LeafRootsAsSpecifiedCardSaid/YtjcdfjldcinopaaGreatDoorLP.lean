/- Texts of this claim. -/
import Derived.Test.YtjcdfjldcinopaaGreatDoorLA
import Derived.Test.YtjcdfjldcinopaaGreatDoorYB
import Derived.Lib.Varint
import Derived.Lib.BitFns
import Derived.Laws.Bits64
open BitVec renaming ofInt_natCast->ka,toNat_ofNat->kz
open Bool renaming eq_iff_iff->ef,not_false->fy,not_true->c8
open Go.IntKind renaming wrap->δ
open Int renaming ofNat_tdiv->jz,ofNat_tmod->fm,tdiv->dk,tmod->bo,toNat_natCast->π
open List renaming append_assoc->υ,append_nil->χ,cons_append->gx,drop->c9,drop_drop->dh,drop_eq_getElem_cons->gb,drop_of_length_le->cm,drop_zero->cc,eq_nil_of_length_eq_zero->gv,flatMap_cons->cf,getD_eq_getElem?_getD->ba,getElem?_cons_zero->fh,getElem?_drop->dv,getElem?_eq_getElem->ε,getElem_mem->da,length_append->κ,length_cons->ξ,length_drop->aq,length_eq_zero_iff->fw,length_map->μ,length_nil->au,length_take->bu,map_append->bn,map_cons->cx,mem_append->dn,mem_cons->bw,mem_map->c7,mem_singleton->bk,nil_append->cg,not_mem_nil->dm,take->cw,take_of_length_le->bc
open Nat renaming add_assoc->fb,add_mul->cn,add_sub_cancel->kj,le_refl->ω,le_trans->cq,mul_le_mul_right->cu,mul_one->cz,pow_le_pow_right->fv,zero_add->bf
set_option linter.all false
namespace Go.Proofs.Tryz
open Go.Eng
theorem aF{α:Type}{c:Bool}{a b:Option α}(h:c=true):if? c a b=a:=by rw[h];rfl
theorem aE{α:Type}{c:Bool}{a b:Option α}(h:c=false):if? c a b=b:=by rw[h];rfl
abbrev Vr:=TL
end Go.Proofs.Tryz
set_option maxRecDepth 8000
set_option synthInstance.maxSize 100000
set_option synthInstance.maxHeartbeats 400000
namespace Go.Proofs.Tryz
open Go.Eng Go.RowKit Go.Lib
variable{N i k:Nat}{s:Str}{l:List Int}{α:Type}{n a:Int}{v:Vr}
theorem q8(n:Nat):δ .u8 (n:Int)=((n%256:Nat):Int):=by rw[IntKind.wrap_u8];omega
theorem q64{x:Int}(h:0<=x)(h':x<18446744073709551616):δ .u64 x=x:=by rw[IntKind.wrap_u64];omega
def I64(n:Int):Prop:=-9223372036854775808<=n/\n<=9223372036854775807
theorem aC7(s:Str)(i:Nat):(aG s)[i]?=(s[i]?).map fun c=>(c.toNat:Int):=by unfold aG;rw[List.getElem?_map]
theorem cQ(s:Str):bI (aG s)=s:=by
 unfold bI aG;rw[List.map_map]
 conv=>rhs;rw[<-List.map_id s]
 refine List.map_congr_left fun c _=>?_;show UInt8.ofNat ((c.toNat:Int)).toNat=c;rw[π];exact UInt8.ofNat_toNat
theorem gZ(s t:Str):aG (s++t)=aG s++aG t:=bn
theorem aG6{t:Str}{n:Nat}:aG (t.take n)=(aG t).take n:=by unfold aG;rw[List.map_take]
theorem zS{t:Str}{n:Nat}:aG (t.drop n)=(aG t).drop n:=by unfold aG;rw[List.map_drop]
theorem bN2(m:Nat):pX (m+1)=uE (pX m):=rfl
theorem aPj:∀(k z m:Nat) (a:List Int),z<128^(k+1)->z<18446744073709551616->k<m->a.length+k<1000000->
  pX m (z:Int) a=some (a++aG (uvarint z))
 |k,z,0,a,_,_,h,_=>by omega
 |k,z,m+1,a,hz,hz2,hm,hal=>by
  rw[bN2];unfold uE;rw[q8];by_cases h:128<=z
  ·obtain⟨k',rfl⟩:∃k',k=k'+1:=⟨k-1,by cases k with
    |zero=>have:128^(0+1)=128:=rfl;omega
    |succ k=>rfl⟩
   have e1:bits .or .u8 ((z%256:Nat):Int) 128=((z%128+128:Nat):Int):=by rw[Go.Lib.u8_or128_any _ (by omega) (by omega)];omega
   have e4:(z:Int)/2^7=((z/128:Nat):Int):=rfl;rw[e1,e4,aF (decide_eq_true (by omega)),aD,aC (by simp only[ξ,au];omega),aD];rw[aPj k' (z/128) m (a++[((z%128+128:Nat):Int)]) (by have:128^(k'+1+1)=128^(k'+1)*128:=rfl;omega) (by omega) (by omega) (by simp only[κ,ξ,au];omega),uvarint_big h,υ];refine congrArg (fun l=>some (a++l)) ?_;show _::aG (uvarint (z/128))=(((z%128+128).toUInt8.toNat:Nat):Int)::aG (uvarint (z/128));rw[show(z%128+128).toUInt8.toNat=z%128+128 by
    show(z%128+128)%256=_;omega]
  ·rw[aE (decide_eq_false (by omega)),aD,aC (by simp only[ξ,au];omega),aD,uvarint_small (by omega)];refine congrArg (fun l=>some (a++l)) ?_;show[((z%256:Nat):Int)]=[((z.toUInt8.toNat:Nat):Int)];rw[show z.toUInt8.toNat=z%256 from rfl]
theorem bDp(N:Nat)(n:Int)(hN:20<=N)(hn:I64 n):dX N n=some (aG (uvarint (zigzag n))):=by
 obtain⟨h1,h2⟩:=hn;have e1:(2:Int)^63=9223372036854775808:=rfl;have e2:(2:Int)^1=2:=rfl;have hz:zigzag n<18446744073709551616:=by unfold zigzag;split<;>omega
 have key:bits .xor .u64 (δ .u64 ((δ .u64 n)*2)) (δ .u64 (n/9223372036854775808))=((zigzag n:Nat):Int):=by
  by_cases h:0<=n
  ·have hz':zigzag n=(2*n).toNat:=by unfold zigzag;rw[if_pos h]
   rw[show n/9223372036854775808=((0:Nat):Int) by omega,q64 (x:=n) h (by omega),q64 (x:=n*2) (by omega) (by omega),q64 (x:=((0:Nat):Int)) (by omega) (by omega),show n*2=(((2*n).toNat:Nat):Int) by omega,Go.bits_xor_u64_nat _ _ (by omega) (by omega),Nat.xor_zero,hz']
  ·have hz':zigzag n=(-2*n-1).toNat:=by unfold zigzag;rw[if_neg h]
   have w:∀x:Int,δ .u64 x=x%18446744073709551616:=fun x=>IntKind.wrap_u64 x;obtain⟨y,hy,hy2⟩:∃y:Nat,(((n%18446744073709551616)*2)%18446744073709551616:Int)=(y:Int)/\(y:Int)=18446744073709551616+2*n:=⟨(18446744073709551616+2*n).toNat,by omega,by omega⟩;rw[w,w,w,hy,show n/9223372036854775808%18446744073709551616=((18446744073709551615:Nat):Int) by omega,Go.bits_xor_u64_nat _ _ (by omega) (by omega)];have hx:y^^^18446744073709551615=18446744073709551615-y:=by
    rw[Nat.xor_comm];apply Nat.eq_of_testBit_eq;intro i;rw[Nat.testBit_xor,show 18446744073709551615-y=2^64-(y+1) by omega,Nat.testBit_two_pow_sub_succ (by omega),show(18446744073709551615:Nat)=2^64-(0+1)from rfl,Nat.testBit_two_pow_sub_succ (by omega)];by_cases hi:i<64
    ·simp[hi]
    ·have:y.testBit i=false:=Nat.testBit_lt_two_pow (Nat.lt_of_lt_of_le (show y<2^64 by omega) (fv (by decide) (by omega)));simp[hi,this]
   rw[hx,hz'];omega
 unfold dX;rw[e1,e2,key,aPj 9 (zigzag n) N [] (by have:128^(9+1)=1180591620717411303424:=rfl;omega) hz (by omega) (by simp),cg]
def unz(z:Nat):Int:=if z%2=0 then((z/2:Nat):Int)else-((z/2:Nat):Int)-1
def giN:Nat->Nat->Str->Int×Int×Int
 |_,_,[]=>(0,0,10)
 |k,z,c::r=>if(k=9/\1<c.toNat)\/(0<k/\c.toNat=0)then(0,0,11)else if c.toNat<128 then(unz (z+c.toNat%128*128^k),((k+1:Nat):Int),0)else giN (k+1) (z+c.toNat%128*128^k) r
theorem aKp(n:Int)(h₀:0<=n)(h₁:n<2^64):IntKind.u64.wrap n=n:=by rw[IntKind.wrap_u64];omega
theorem bC0(x b:Nat)(hx:x<9223372036854775808)(hb:b<2):bits .xor .i64 (x:Int) (-(b:Int))=if b=0 then(x:Int)else-(x:Int)-1:=by
 obtain rfl|rfl:b=0\/b=1:=by omega
 ·simp only[bits,if_pos];rw[show(-((0:Nat):Int))=((0:Nat):Int)from rfl,ka,ka,BitVec.toNat_xor,kz,kz];rw[show(0%2^IntKind.i64.bits)=0 from rfl,Nat.xor_zero,IntKind.wrap_i64,show IntKind.i64.bits=64 from rfl];omega
 ·rw[if_neg (by decide)];simp only[bits];have hone:BitVec.ofInt IntKind.i64.bits (-((1:Nat):Int))=BitVec.allOnes IntKind.i64.bits:=by decide
  rw[hone,ka,BitVec.xor_allOnes,BitVec.toNat_not,kz,IntKind.wrap_i64,show IntKind.i64.bits=64 from rfl];omega
theorem aQk(z k c:Nat)(hz:z<128^k)(hk:k<=9)(hc:c<256)(h9:k=9->c<=1):
  bits .or .u64 (z:Int) (δ .u64 ((δ .u64 ((bits .and .u8 (c:Int) 127)))*2^(7*(k:Int)).toNat))=((z+c%128*128^k:Nat):Int)/\z+c%128*128^k<18446744073709551616/\(k<9->z+c%128*128^k<128^(k+1)):=by
 have p9:128^k<=9223372036854775808:=cq (fv (by decide) hk) (by decide);have hm:c%128<128:=Nat.mod_lt _ (by decide);have hb:z+c%128*128^k<18446744073709551616/\(k<9->z+c%128*128^k<128^(k+1)):=by
  have e:128^(k+1)=128^k*128:=rfl;have h1:c%128*128^k<=127*128^k:=cu _ (by omega);refine⟨?_,fun _=>by omega⟩;by_cases h:k=9
  ·subst h;have h2:c%128*128^9<=1*128^9:=cu _ (by have:=h9 rfl;omega);omega
  ·have p8:128^k<=72057594037927936:=cq (fv (by decide) (show k<=8 by omega)) (by decide);omega
 refine⟨?_,hb⟩;have e1:bits .and .u8 (c:Int) 127=((c%128:Nat):Int):=by have:=bits_mask .u8 8 (by decide) wraps_u8 7 (by decide) (c:Int) (by omega) (by omega);rw[show((2:Int)^7-1)=127 from rfl]at this;rw[this];omega
 have e2:(2:Int)^(7*(k:Int)).toNat=((128^k:Nat):Int):=by rw[show(7*(k:Int)).toNat=7*k by omega,Int.pow_mul];simp
 have hx:c%128*128^k<18446744073709551616:=by omega
 rw[e1,q64 (x:=((c%128:Nat):Int)) (by omega) (by omega),e2,<-Int.natCast_mul,q64 (x:=((c%128*128^k:Nat):Int)) (by omega) (by omega),(bits_nat .u64 64 (by decide) aKp _ _ (by omega) (by omega)).2];congr 1;have e3:128^k=2^(7*k):=by rw[Nat.pow_mul]
 rw[e3]at hz|-;have:=Nat.shiftLeft_add_eq_or_of_lt hz (c%128);rw[Nat.shiftLeft_eq]at this;rw[Nat.or_comm,<-this,Nat.add_comm]
def giL:Nat->Nat->Str->TF⊕TN
 |_,z,[]=>.inr ((z:Int),0)
 |k,z,c::r=>if(k=9/\1<c.toNat)\/(0<k/\c.toNat=0)then .inl (0,(0,11))else if c.toNat<128 then .inr (((z+c.toNat%128*128^k:Nat):Int),((k+1:Nat):Int))else giL (k+1) (z+c.toNat%128*128^k) r
def giT:TF⊕TN->Int×Int×Int
 |.inl r=>r
 |.inr v=>if v.2=0 then(0,0,10)else(unz v.1.toNat,v.2,0)
theorem bFm:∀(r:Str) (k z:Nat),giT (giL k z r)=giN k z r
 |[],k,z=>rfl
 |c::r,k,z=>by
  rw[giL,giN];by_cases h:(k=9/\1<c.toNat)\/(0<k/\c.toNat=0)
  ·rw[if_pos h,if_pos h];rfl
  ·rw[if_neg h,if_neg h];by_cases h2:c.toNat<128
   ·rw[if_pos h2,if_pos h2];unfold giT;dsimp only;rw[if_neg (by omega),π]
   ·rw[if_neg h2,if_neg h2];exact bFm r _ _
theorem bG4:∀(r:Str) (k z:Nat) (v:Int×Int),k<=9->z<128^k->giL k z r=.inr v->∃y:Nat,v.1=(y:Int)/\y<18446744073709551616/\∃u:Nat,v.2=(u:Int)
 |[],k,z,v,hk,hz,h=>by
  cases h;have p9:128^k<=9223372036854775808:=cq (fv (by decide) hk) (by decide);exact⟨z,rfl,by omega,0,rfl⟩
 |c::r,k,z,v,hk,hz,h=>by
  rw[giL]at h;have hcl:=c.toNat_lt;by_cases hb:(k=9/\1<c.toNat)\/(0<k/\c.toNat=0)
  ·rw[if_pos hb]at h;cases h
  ·rw[if_neg hb]at h;obtain⟨_,h2,h3⟩:=aQk z k c.toNat hz hk (by omega) (by omega);by_cases hh:c.toNat<128
   ·rw[if_pos hh]at h;cases h;exact⟨_,rfl,h2,k+1,rfl⟩
   ·rw[if_neg hh]at h;exact bG4 r (k+1) _ v (by omega) (h3 (by omega)) h
theorem bLg(m:Nat):gW (m+1)=kY (gW m):=rfl
theorem aUk(s:Str):∀(r:Str) (k z m:Nat),s.drop k=r->k<=9->z<128^k->10<m+k->gW m (z:Int) 0 (aG s) (((aG s).length:Nat):Int) (k:Int)=some (giL k z r)
 |r,k,z,0,_,_,_,h=>by omega
 |[],k,z,m+1,hr,hk,hz,hm=>by
  have:s.length<=k:=by have:=congrArg List.length hr;rw[aq,au]at this;omega
  rw[bLg];unfold kY;rw[aP,aE (decide_eq_false (by omega))];rfl
 |c::r,k,z,m+1,hr,hk,hz,hm=>by
  have hlen:k<s.length:=by have:=congrArg List.length hr;rw[aq,ξ]at this;omega
  have hc:s[k]=c:=by have:=congrArg (·[0]?) hr;simp only[dv,Nat.add_zero,fh]at this;rw[ε hlen]at this;exact Option.some.inj this
  have hr':s.drop (k+1)=r:=by have:=congrArg List.tail hr;rw[List.tail_drop]at this;exact this
  have hcl:=c.toNat_lt;have hget:(aG s)[k]?=some (c.toNat:Int):=by rw[aC7,ε hlen,hc];rfl
  have rec_:=fun z' h1 h2 h3=>aUk s r (k+1) z' m hr' h1 h2 h3;rw[bLg,giL];unfold kY;rw[aP]at rec_|-;rw[aF (decide_eq_true (by omega)),bJ hget];generalize hcn:c.toNat=d at*;by_cases hbad:(k=9/\1<d)\/(0<k/\d=0)
  ·rw[if_pos hbad];by_cases h9:k=9
   ·subst h9;rw[show(((9:Nat):Int)==9)=true from rfl,aN,aB];dsimp only;by_cases h1:1<d
    ·rw[aF (decide_eq_true (by omega)),aB];rfl
    ·have h0:d=0:=by omega
     subst h0;rfl
   ·have hd:0<k/\d=0:=by omega
    rw[show((k:Int)==9)=false by rw[beq_eq_false_iff_ne];omega,aL,aB];dsimp only;rw[aL,aF (decide_eq_true (by omega)),aB];dsimp only;rw[show((d:Int)==0)=true by rw[beq_iff_eq];omega,aN];rfl
  ·rw[if_neg hbad];obtain⟨e1,e2,e3⟩:=aQk z k d hz hk (by omega) (by omega);have fin:∀x:Bool,x=false->(bd? (some ((z:Int),(0:Int),(k:Int),(d:Int),aG s,(s.length:Int),(k:Int),x)) fun w10=>if? (w10.2.2.2.2.2.2.2) (lJ (some ((0,(0,11))))) (ck .i64 ((7*w10.2.2.1)) (gd? ((0<=(7*w10.2.2.1))) (gd? (((7*w10.2.2.1)<=(((IntKind.bits .u64):Nat):Int))) (if? (decide (w10.2.2.2.1<128)) (ck .i64 ((w10.2.2.1+1)) (some (.inr ((bits .or .u64 w10.1 (δ .u64 ((δ .u64 (bits .and .u8 w10.2.2.2.1 127))*(2^(7*w10.2.2.1).toNat)))),(w10.2.2.1+1))))) (ck .i64 ((w10.2.2.2.2.2.2.1+1)) (gW m (bits .or .u64 w10.1 (δ .u64 ((δ .u64 (bits .and .u8 w10.2.2.2.1 127))*(2^(7*w10.2.2.1).toNat)))) w10.2.1 w10.2.2.2.2.1 w10.2.2.2.2.2.1 (w10.2.2.2.2.2.2.1+1))))))))=some (if d<128 then .inr (((z+d%128*128^k:Nat):Int),((k+1:Nat):Int))else giL (k+1) (z+d%128*128^k) r):=by
    intro x hx;subst hx;rw[aB];dsimp only;rw[aL,aM (by omega) (by omega),aC (by omega),aC (by show _<=((64:Nat):Int);omega),e1];by_cases hh:d<128
    ·rw[aF (decide_eq_true (by omega)),aM (by omega) (by omega),if_pos hh,show(k:Int)+1=((k+1:Nat):Int) by omega]
    ·rw[aE (decide_eq_false (by omega)),aM (by omega) (by omega),if_neg hh,show(k:Int)+1=((k+1:Nat):Int) by omega];exact rec_ _ (by omega) (e3 (by omega)) (by omega)
   by_cases h9:k=9
   ·rw[show((k:Int)==9)=true by rw[beq_iff_eq];omega,aN,aB];dsimp only;rw[aE (decide_eq_false (by omega)),aF (decide_eq_true (by omega))];exact fin _ (by rw[beq_eq_false_iff_ne];omega)
   ·rw[show((k:Int)==9)=false by rw[beq_eq_false_iff_ne];omega,aL,aB];dsimp only;rw[aL];by_cases h0:0<k
    ·rw[aF (decide_eq_true (by omega))];exact fin _ (by rw[beq_eq_false_iff_ne];omega)
    ·rw[aE (decide_eq_false (by omega))];exact fin _ rfl
def gi(s:Str):Int×Int×Int:=giN 0 0 s
theorem aDn(hN:11<=N)(s:Str):hU N (aG s)=some (gi s):=by
 unfold hU;have h:=aUk s s 0 0 N rfl (by omega) (by decide) (by omega);rw[show(((0:Nat):Int))=0 from rfl]at h;rw[h];unfold gi;rw[<-bFm];cases e:giL 0 0 s with
 |inl r=>rfl
 |inr v=>
  obtain⟨y,h1,h2,u,h3⟩:=bG4 s 0 0 v (by omega) (by decide) e;obtain⟨a,b⟩:=v;dsimp only at h1 h3;subst h1 h3;rw[aEz];dsimp only[giT];by_cases hu:u=0
  ·subst hu;rfl
  ·have e5:bits .and .u64 (y:Int) 1=((y%2:Nat):Int):=by have:=bits_mask .u64 64 (by decide) aKp 1 (by decide) (y:Int) (by omega) (by omega);rw[show((2:Int)^1-1)=1 from rfl]at this;rw[this];omega
   have e4:(y:Int)/2^1=((y/2:Nat):Int):=rfl;rw[aE (by rw[beq_eq_false_iff_ne];omega),e5,e4,vG (n:=((y%2:Nat):Int)) (by omega) (by omega),vG (n:=((y/2:Nat):Int)) (by omega) (by omega),aM (by omega) (by omega),bC0 _ _ (by omega) (by omega),if_neg (show¬((u:Int)=0) by omega),π];rfl
set_option maxRecDepth 8000
set_option synthInstance.maxSize 100000
set_option synthInstance.maxHeartbeats 400000
theorem bFc{z:Nat}(h:z<18446744073709551616):I64 (unz z):=by unfold unz I64;split<;>omega
theorem aYw:∀(s:Str) (k z:Nat),k<=9->z<128^k->(((giN k z s).2.2=0/\∃u:Nat,(giN k z s).2.1=(u:Int)/\k+1<=u/\u<=k+s.length/\u<=10/\I64 (giN k z s).1)\/((giN k z s).1=0/\(giN k z s).2.1=0/\((giN k z s).2.2=10\/(giN k z s).2.2=11)))
 |[],k,z,_,_=>.inr ⟨rfl,rfl,.inl rfl⟩
 |c::s,k,z,hk,hz=>by
  rw[giN];by_cases hb:(k=9/\1<c.toNat)\/(0<k/\c.toNat=0)
  ·rw[if_pos hb];exact .inr ⟨rfl,rfl,.inr rfl⟩
  ·rw[if_neg hb];have hcl:=c.toNat_lt;obtain⟨_,h2,h3⟩:=aQk z k c.toNat hz hk (by omega) (by omega);by_cases hh:c.toNat<128
   ·rw[if_pos hh];exact .inl ⟨rfl,k+1,rfl,by omega,by simp only[ξ];omega,by omega,bFc h2⟩
   ·rw[if_neg hh];have hk9:k<9:=by omega
    rcases aYw s (k+1) _ (by omega) (h3 hk9)with⟨e,u,h1,h2,h3,h4,h5⟩|h
    ·exact .inl ⟨e,u,h1,by omega,by simp only[ξ];omega,h4,h5⟩
    ·exact .inr h
theorem yZ(s:Str):((gi s).2.2=0/\∃u:Nat,(gi s).2.1=(u:Int)/\1<=u/\u<=s.length/\u<=10/\I64 (gi s).1)\/((gi s).1=0/\(gi s).2.1=0/\((gi s).2.2=10\/(gi s).2.2=11)):=by
 rcases aYw s 0 0 (by omega) (by decide)with⟨e,u,h1,h2,h3,h4,h5⟩|h
 ·exact .inl ⟨e,u,h1,by omega,by omega,h4,h5⟩
 ·exact .inr h
def bL(s:Str):Int×Int×Int:=
 if(gi s).2.2≠0 then(0,0,(gi s).2.2)else if(gi s).1<0 then(0,0,11)else if(gi s).1>(s.length:Int)-(gi s).2.1 then(0,0,10)else((gi s).1,(gi s).2.1,0)
theorem jZ{b:Int}(h:a=b):(a !=b)=false:=by rw[bne_eq_false_iff_eq];exact h
theorem mH{b:Int}(h:a≠b):(a !=b)=true:=by rw[bne_iff_ne];exact h
theorem aDe(hN:11<=N)(s:Str)(hs:s.length<=1000000):hZ N (aG s) 1=some (bL s):=by
 unfold hZ bL;rw[aDn hN,aB,aP];rcases yZ s with⟨e,u,h1,h2,h3,h4,h5⟩|⟨h1,h2,h3⟩
 ·obtain⟨b1,b2⟩:=h5;rw[jZ e,aL,if_neg (by rw[e];simp),h1,Int.tdiv_one];by_cases hn:(gi s).1<0
  ·rw[aF (decide_eq_true hn),if_pos hn]
  ·rw[aE (decide_eq_false hn),if_neg hn,aM (by omega) (by omega),aC (by decide),aM (by omega) (by omega)];by_cases hg:(gi s).1>(s.length:Int)-(u:Int)
   ·rw[aF (decide_eq_true hg),if_pos hg]
   ·rw[aE (decide_eq_false hg),if_neg hg]
 ·have hne:(gi s).2.2≠0:=by omega
  rw[mH hne,aN,if_pos hne]
theorem mF(s:Str):((bL s).2.2=0/\∃n u:Nat,bL s=((n:Int),(u:Int),0)/\1<=u/\n+u<=s.length)\/((bL s).1=0/\(bL s).2.1=0/\((bL s).2.2=10\/(bL s).2.2=11)):=by
 unfold bL;rcases yZ s with⟨e,u,h1,h2,h3,h4,h5⟩|⟨h1,h2,h3⟩
 ·rw[if_neg (by rw[e];simp)];by_cases hn:(gi s).1<0
  ·rw[if_pos hn];exact .inr ⟨rfl,rfl,.inr rfl⟩
  ·rw[if_neg hn];by_cases hg:(gi s).1>(s.length:Int)-(gi s).2.1
   ·rw[if_pos hg];exact .inr ⟨rfl,rfl,.inl rfl⟩
   ·rw[if_neg hg];refine .inl ⟨rfl,(gi s).1.toNat,u,?_,h2,by omega⟩;rw[h1,Int.toNat_of_nonneg (by omega)]
 ·rw[if_pos (by omega)];exact .inr ⟨rfl,rfl,h3⟩
def lT:Nat->Str->Int->List Int->List Int×Int×Int
 |0,_,a,acc=>(acc,a,0)
 |n+1,r,a,acc=>if(gi r).2.2≠0 then([],0,(gi r).2.2)else lT n (r.drop (gi r).2.1.toNat) (a+(gi r).2.1) (acc++[(gi r).1])
theorem xQ(s:Str)(a:Nat):((aG s).drop a).take ((aG s).length-a)=aG (s.drop a):=by rw[zS,bc (by rw[aq];exact ω _)]
theorem bGi(N m:Nat):jH N (m+1)=jU N (jH N m):=rfl
def swp{α:Type}(v:α×Int×Int):Int×(Int×α):=(v.2.1,(v.2.2,v.1))
theorem aHw{N:Nat}(hN:11<=N)(s:Str)(v:Nat)(hs:s.length<=1000000):∀(n a b m:Nat) (acc:List Int),v=b+n->a<=s.length->b+n<=1000000->acc.length=b->n<m->
  jH N m (aG s) (a:Int) (v:Int) (b:Int) acc=some (swp (lT n (s.drop a) (a:Int) acc))
 |n,a,b,0,acc,_,_,_,_,h=>by omega
 |0,a,b,m+1,acc,hv,ha,hb,hacc,_=>by
  rw[bGi];unfold jU;rw[aE (decide_eq_false (by omega)),aD];rfl
 |n+1,a,b,m+1,acc,hv,ha,hb,hacc,hm=>by
  rw[bGi];unfold jU;rw[aF (decide_eq_true (by omega)),aC (by omega),π,aC (by rw[aP];exact ha),aC (ω _),xQ,aDn hN,aB,lT];rcases yZ (s.drop a)with⟨e,u,h1,h2,h3,h4,h5⟩|⟨h1,h2,h3⟩
  ·rw[aq]at h3;rw[jZ e,aL,if_neg (by rw[e];simp),aD,aC (by simp only[ξ,au];omega),h1,aM (by omega) (by omega),aM (by omega) (by omega),aD,show((a:Int)+(u:Int))=((a+u:Nat):Int) by omega,show((b:Int)+1)=((b+1:Nat):Int) by omega,
    aHw hN s v hs n (a+u) (b+1) m _ (by omega) (by omega) (by omega) (by simp[hacc]) (by omega),π,dh]
  ·have hne:(gi (s.drop a)).2.2≠0:=by omega
   rw[mH hne,aN,if_pos hne];rfl
def aH(s:Str):List Int×Int×Int:=if(bL s).2.2≠0 then([],0,(bL s).2.2)else lT (bL s).1.toNat (s.drop (bL s).2.1.toNat) (bL s).2.1 []
theorem aIc(s:Str)(hN:11<=N)(hs:s.length<N)(hb:s.length<=1000000):jF N (aG s)=some (swp (aH s)):=by
 unfold jF qX aH;rw[aDe hN s hb,aB];rcases mF s with⟨e,n,u,h1,h2,h3⟩|⟨h1,h2,h3⟩
 ·rw[jZ e,aL,if_neg (by rw[e];simp)];have e1:(bL s).1=(n:Int):=by rw[h1]
  have e2:(bL s).2.1=(u:Int):=by rw[h1]
  rw[e2,e1];have:=aHw hN s n hb n u 0 N [] (by omega) (by omega) (by omega) rfl (by omega);rw[show(((0:Nat):Int))=0 from rfl]at this;rw[this,aB,π,π,aD]
  try rfl
 ·have hne:(bL s).2.2≠0:=by omega
  rw[mH hne,aN,if_pos hne,aB,aD]
  try rfl
def bN(s:Str):Str×Int×Int:=if(bL s).2.2≠0 then([],0,(bL s).2.2)else((s.drop (bL s).2.1.toNat).take (bL s).1.toNat,(bL s).2.1+(bL s).1,0)
theorem aPy(s:Str)(hN:11<=N)(hb:s.length<=1000000):kO N (aG s)=some (bN s):=by
 unfold kO bN;rw[aDe hN s hb,aB];rcases mF s with⟨e,n,u,h1,h2,h3⟩|⟨h1,h2,h3⟩
 ·rw[jZ e,aL,if_neg (by rw[e];simp)];have e1:(bL s).1=(n:Int):=by rw[h1]
  have e2:(bL s).2.1=(u:Int):=by rw[h1]
  rw[e1,e2,aM (by omega) (by omega),aC (by omega),aC (by omega),aC (by omega),aC (by rw[aP];omega),aM (by omega) (by omega),π,π,show((u:Int)+(n:Int)).toNat-u=n by omega,<-zS,<-aG6,cQ]
 ·have hne:(bL s).2.2≠0:=by omega
  rw[mH hne,aN,if_pos hne]
theorem aDk(s:Str):((bN s).2.2=0/\∃u:Nat,(bN s).2.1=(u:Int)/\1<=u/\u<=s.length/\(bN s).1.length<=s.length)\/((bN s).1=[]/\(bN s).2.1=0/\((bN s).2.2=10\/(bN s).2.2=11)):=by
 unfold bN;rcases mF s with⟨e,n,u,h1,h2,h3⟩|⟨h1,h2,h3⟩
 ·rw[if_neg (by rw[e];simp)];refine .inl ⟨rfl,u+n,by rw[h1];rfl,by omega,by omega,?_⟩;show((s.drop _).take _).length<=_;rw[bu,aq];omega
 ·rw[if_pos (by omega)];exact .inr ⟨rfl,rfl,h3⟩
def lS:Nat->Str->Int->List Str->List Str×Int×Int
 |0,_,a,acc=>(acc,a,0)
 |n+1,r,a,acc=>if(bN r).2.2≠0 then([],0,(bN r).2.2)else lS n (r.drop (bN r).2.1.toNat) (a+(bN r).2.1) (acc++[(bN r).1])
theorem bGm(N m:Nat):fF N (m+1)=fD N (fF N m):=rfl
theorem aHs{N:Nat}(hN:11<=N)(s:Str)(v:Nat)(hs:s.length<=1000000):∀(n a b m:Nat) (acc:List Str),v=b+n->a<=s.length->b+n<=1000000->acc.length=b->n<m->
  fF N m (aG s) (a:Int) (v:Int) (b:Int) acc=some (swp (lS n (s.drop a) (a:Int) acc))
 |n,a,b,0,acc,_,_,_,_,h=>by omega
 |0,a,b,m+1,acc,hv,ha,hb,hacc,_=>by
  rw[bGm];unfold fD;rw[aE (decide_eq_false (by omega)),aD];rfl
 |n+1,a,b,m+1,acc,hv,ha,hb,hacc,hm=>by
  rw[bGm];unfold fD;rw[aF (decide_eq_true (by omega)),aC (by omega),π,aC (by rw[aP];exact ha),aC (ω _),xQ,aPy _ hN (by rw[aq];omega),aB,lS];rcases aDk (s.drop a)with⟨e,u,h1,h2,h3,h4⟩|⟨h1,h2,h3⟩
  ·rw[aq]at h3;rw[jZ e,aL,if_neg (by rw[e];simp),aD,aC (by simp only[ξ,au];omega),h1,aM (by omega) (by omega),aM (by omega) (by omega),aD,show((a:Int)+(u:Int))=((a+u:Nat):Int) by omega,show((b:Int)+1)=((b+1:Nat):Int) by omega,
    aHs hN s v hs n (a+u) (b+1) m _ (by omega) (by omega) (by omega) (by simp[hacc]) (by omega),π,dh]
  ·have hne:(bN (s.drop a)).2.2≠0:=by omega
   rw[mH hne,aN,if_pos hne];rfl
def dH(s:Str):List Str×Int×Int:=if(bL s).2.2≠0 then([],0,(bL s).2.2)else lS (bL s).1.toNat (s.drop (bL s).2.1.toNat) (bL s).2.1 []
theorem aJf(s:Str)(hN:11<=N)(hs:s.length<N)(hb:s.length<=1000000):iD N (aG s)=some (swp (dH s)):=by
 unfold iD mE dH;rw[aDe hN s hb,aB];rcases mF s with⟨e,n,u,h1,h2,h3⟩|⟨h1,h2,h3⟩
 ·rw[jZ e,aL,if_neg (by rw[e];simp)];have e1:(bL s).1=(n:Int):=by rw[h1]
  have e2:(bL s).2.1=(u:Int):=by rw[h1]
  rw[e2,e1];have:=aHs hN s n hb n u 0 N [] (by omega) (by omega) (by omega) rfl (by omega);rw[show(((0:Nat):Int))=0 from rfl]at this;rw[this,aB,π,π,aD]
  try rfl
 ·have hne:(bL s).2.2≠0:=by omega
  rw[mH hne,aN,if_pos hne,aB,aD]
  try rfl
theorem kF{b:Int}(h:a=b):(a==b)=true:=by rw[beq_iff_eq];exact h
theorem fA{b:Int}(h:a≠b):(a==b)=false:=by rw[beq_eq_false_iff_ne];exact h
theorem aP5:∀(n:Nat) (r:Str) (a:Nat) (acc:List Int),(∀x∈acc,I64 x)->((lT n r (a:Int) acc).2.2=0/\∃u:Nat,(lT n r (a:Int) acc).2.1=(u:Int)/\a<=u/\u<=a+r.length/\(lT n r (a:Int) acc).1.length=acc.length+n/\∀x∈(lT n r (a:Int) acc).1,I64 x)\/((lT n r (a:Int) acc).2.2≠0)
 |0,r,a,acc,h=>.inl ⟨rfl,a,rfl,by omega,by omega,rfl,h⟩
 |n+1,r,a,acc,h=>by
  rw[lT];rcases yZ r with⟨e,u,h1,h2,h3,h4,h5⟩|⟨h1,h2,h3⟩
  ·rw[if_neg (by rw[e];simp),h1,show((a:Int)+(u:Int))=((a+u:Nat):Int) by omega,π];rcases aP5 n (r.drop u) (a+u) (acc++[(gi r).1]) (fun x hx=>by
    rcases dn.1 hx with hx|hx
    ·exact h x hx
    ·rw[bk.1 hx];exact h5)with⟨e',u',g1,g2,g3,g4,g5⟩|g
   ·rw[aq]at g3;exact .inl ⟨e',u',g1,by omega,by omega,by rw[g4];simp;omega,g5⟩
   ·exact .inr g
  ·have hne:(gi r).2.2≠0:=by omega
   rw[if_pos hne];exact .inr hne
theorem nI(s:Str):((aH s).2.2=0/\∃u:Nat,(aH s).2.1=(u:Int)/\u<=s.length/\(aH s).1.length<=s.length/\∀x∈(aH s).1,I64 x)\/((aH s).2.2≠0):=by
 unfold aH;rcases mF s with⟨e,n,u,h1,h2,h3⟩|⟨h1,h2,h3⟩
 ·rw[if_neg (by rw[e];simp)];have e1:(bL s).1=(n:Int):=by rw[h1]
  have e2:(bL s).2.1=(u:Int):=by rw[h1]
  rw[e1,e2,π,π];rcases aP5 n (s.drop u) u [] (fun x hx=>by cases hx)with⟨e',u',g1,g2,g3,g4,g5⟩|g
  ·rw[aq]at g3;exact .inl ⟨e',u',g1,by omega,by rw[g4];simp;omega,g5⟩
  ·exact .inr g
 ·have hne:(bL s).2.2≠0:=by omega
  rw[if_pos hne];exact .inr hne
theorem aPc:∀(n:Nat) (r:Str) (a:Nat) (acc:List Str),((lS n r (a:Int) acc).2.2=0/\∃u:Nat,(lS n r (a:Int) acc).2.1=(u:Int)/\a<=u/\u<=a+r.length/\(lS n r (a:Int) acc).1.length=acc.length+n/\∀b:Nat,r.length<=b->(∀x∈acc,x.length<=b)->∀x∈(lS n r (a:Int) acc).1,x.length<=b)\/((lS n r (a:Int) acc).2.2≠0)
 |0,r,a,acc=>.inl ⟨rfl,a,rfl,by omega,by omega,rfl,fun _ _ h=>h⟩
 |n+1,r,a,acc=>by
  rw[lS];rcases aDk r with⟨e,u,h1,h2,h3,h4⟩|⟨h1,h2,h3⟩
  ·rw[if_neg (by rw[e];simp),h1,show((a:Int)+(u:Int))=((a+u:Nat):Int) by omega,π];rcases aPc n (r.drop u) (a+u) (acc++[(bN r).1])with⟨e',u',g1,g2,g3,g4,g5⟩|g
   ·rw[aq]at g3;refine .inl ⟨e',u',g1,by omega,by omega,by rw[g4];simp;omega,fun b hb hx=>g5 b (by rw[aq];omega) fun x hx'=>?_⟩;rcases dn.1 hx' with hx'|hx'
    ·exact hx x hx'
    ·rw[bk.1 hx'];omega
   ·exact .inr g
  ·have hne:(bN r).2.2≠0:=by omega
   rw[if_pos hne];exact .inr hne
theorem aA9(s:Str):((dH s).2.2=0/\∃u:Nat,(dH s).2.1=(u:Int)/\u<=s.length/\(dH s).1.length<=s.length/\∀x∈(dH s).1,x.length<=s.length)\/((dH s).2.2≠0):=by
 unfold dH;rcases mF s with⟨e,n,u,h1,h2,h3⟩|⟨h1,h2,h3⟩
 ·rw[if_neg (by rw[e];simp)];have e1:(bL s).1=(n:Int):=by rw[h1]
  have e2:(bL s).2.1=(u:Int):=by rw[h1]
  rw[e1,e2,π,π];rcases aPc n (s.drop u) u []with⟨e',u',g1,g2,g3,g4,g5⟩|g
  ·rw[aq]at g3;exact .inl ⟨e',u',g1,by omega,by rw[g4];simp;omega,g5 s.length (by rw[aq];omega) fun x hx=>by cases hx⟩
  ·exact .inr g
 ·have hne:(bL s).2.2≠0:=by omega
  rw[if_pos hne];exact .inr hne
def hd(s:Str)(k:Int)(c:Nat)(more:Bool):Option (List Int×List Str):=
 if(aH s).2.2=0/\(aH s).1.length=c/\(aH s).1.getD 0 0=k then
  if more=true then
   if(dH (s.drop (aH s).2.1.toNat)).2.2=0/\(aH s).2.1+(dH (s.drop (aH s).2.1.toNat)).2.1=(s.length:Int)then some ((aH s).1,(dH (s.drop (aH s).2.1.toNat)).1)else none
  else if(aH s).2.1=(s.length:Int)then some ((aH s).1,[])else none
 else none
theorem aIw(s:Str)(a:Nat):(s.drop a).take (s.length-a)=s.drop a:=bc (by rw[aq];exact ω _)
def oS{α:Type}:Option α->α⊕Unit
 |some x=>.inl x
 |none=>.inr ()
theorem vZ(N:Nat){b:Bool}(h:b=true):bH N b=some (.inl ()):=by subst h;rfl
theorem mM(N:Nat){b:Bool}(h:b=false):bH N b=some (.inr ()):=by subst h;rfl
theorem aOh(s:Str)(k:Int)(c:Nat)(more:Bool)(hN:11<=N)(hs:s.length<N)(hb:s.length<=1000000)(hc:1<=c):lW N s k (c:Int) more=some (oS (hd s k c more)):=by
 unfold lW hd;rw[aIc s hN hs hb,aB];unfold swp;dsimp only;rcases nI s with⟨e,u,h1,h2,h3,h4⟩|h
 ·rw[kF e,aN];by_cases hl:(aH s).1.length=c
  ·obtain⟨x,r,hx⟩:∃x r,(aH s).1=x::r:=by
    cases hg:(aH s).1 with
    |nil=>rw[hg]at hl;simp at hl;omega
    |cons x r=>exact⟨x,r,rfl⟩
   have hg0:(aH s).1[0]?=some x:=by rw[hx];rfl
   have hgD:(aH s).1.getD 0 0=x:=by rw[hx];rfl
   rw[kF (show((aH s).1.length:Int)=(c:Int) by omega),aN,aC (by omega),aQ0 hg0,hgD];by_cases hk:x=k
   ·rw[vZ N (kF hk),aB,rV,aD,aEz,if_pos ⟨e,hl,hk⟩];dsimp only;cases more with
    |true=>
     rw[c8,aL,if_pos rfl,h1,π,aC (by omega),aC h2,aC (ω _),aIw,aJf _ hN (by rw[aq];omega) (by rw[aq];omega),aB];unfold swp;dsimp only;rcases aA9 (s.drop u)with⟨e',u',g1,g2,g3,g4⟩|g
     ·rw[aq]at g2;rw[kF e',aN,g1,aM (by omega) (by omega)];by_cases hh:(u:Int)+(u':Int)=(s.length:Int)
      ·rw[vZ N (kF hh),aB,rV,aD,aD,aEz,if_pos ⟨e',hh⟩];dsimp only;rw[aD,aD];rfl
      ·rw[mM N (fA hh),aB,oW,pO,yL,if_neg (fun q=>hh q.2)];rfl
     ·rw[fA g,aL,mM N rfl,aB,oW,pO,yL,if_neg (fun q=>g q.1)];rfl
    |false=>
     rw[fy,aN,if_neg (by decide)];by_cases hh:(aH s).2.1=(s.length:Int)
     ·rw[vZ N (kF hh),aB,rV,aD,if_pos hh];rfl
     ·rw[mM N (fA hh),aB,oW,if_neg hh];rfl
   ·rw[mM N (fA hk),aB,oW,pO,yL,if_neg (fun q=>hk q.2.2)];rfl
  ·rw[fA (show((aH s).1.length:Int)≠(c:Int) by omega),aL,mM N rfl,aB,oW,pO,yL,if_neg (fun q=>hl q.2.1)];rfl
 ·rw[fA h,aL,mM N rfl,aB,oW,pO,yL,if_neg (fun q=>h q.1)];rfl
theorem aLo{k:Int}{c:Nat}{more:Bool}{v:List Int×List Str}(h:hd s k c more=some v):v.1.length=c/\(∀x∈v.1,I64 x)/\v.2.length<=s.length/\∀x∈v.2,x.length<=s.length:=by
 unfold hd at h;split at h
 ·rename_i hh;obtain⟨e,hl,hk⟩:=hh;rcases nI s with⟨_,u,h1,h2,h3,h4⟩|g
  ·split at h
   ·split at h
    ·rename_i hh;cases h;rcases aA9 (s.drop (aH s).2.1.toNat)with⟨_,u',g1,g2,g3,g4⟩|g
     ·rw[aq]at g3 g4;exact⟨hl,h4,cq g3 (Nat.sub_le _ _),fun x hx=>cq (g4 x hx) (Nat.sub_le _ _)⟩
     ·exact absurd hh.1 g
    ·cases h
   ·split at h
    ·cases h;exact⟨hl,h4,by simp,fun x hx=>by cases hx⟩
    ·cases h
  ·exact absurd e g
 ·cases h
def uvI(n:Int):Str:=uvarint (zigzag n)
def cS(l:List Int):Str:=uvI (l.length:Int)++l.flatMap uvI
def fR(s:Str):Str:=uvI (s.length:Int)++s
def sQ(l:List Str):Str:=uvI (l.length:Int)++l.flatMap fR
theorem aRz(h:I64 n):zigzag n<18446744073709551616:=by obtain⟨h1,h2⟩:=h;unfold zigzag;split<;>omega
theorem bCr(n:Int):unz (zigzag n)=n:=by unfold unz zigzag;split<;>split<;>omega
theorem cK(h:I64 n):1<=(uvI n).length/\(uvI n).length<=10:=⟨uvarint_pos _,uvarint_length64 (aRz h)⟩
theorem bEn(r:Str):∀(x k z:Nat),z+x*128^k<18446744073709551616->(0<x\/k=0)->giN k z (uvarint x++r)=(unz (z+x*128^k),((k+(uvarint x).length:Nat):Int),0):=by
 intro x
 induction x using Nat.strongRecOn with
 |_ x ih=>
  intro k z hb h0;have h9:k=9->x<=1:=fun e=>by subst e;have:128^9=9223372036854775808:=rfl;rw[this]at hb;omega
  by_cases hx:x<128
  ·rw[uvarint_small hx,List.singleton_append,giN];have hc:x.toUInt8.toNat=x:=by show x%256=x;omega
   rw[hc,if_neg (by omega),if_pos hx,Nat.mod_eq_of_lt hx];rfl
  ·rw[uvarint_big (by omega),gx,giN];have hc:(x%128+128).toUInt8.toNat=x%128+128:=by show(x%128+128)%256=_;omega
   have e:z+x%128*128^k+x/128*128^(k+1)=z+x*128^k:=by
    have h1:x/128*128^(k+1)=(x/128*128)*128^k:=by rw[Nat.pow_succ,Nat.mul_comm (128^k) 128,Nat.mul_assoc]
    rw[h1,fb,<-cn];congr 2;omega
   rw[hc,if_neg (by omega),if_neg (by omega),show(x%128+128)%128=x%128 by omega,ih (x/128) (by omega) (k+1) _ (by rw[e];exact hb) (.inl (by omega)),e,ξ];have:k+1+(uvarint (x/128)).length=k+((uvarint (x/128)).length+1):=by omega
   rw[this]
theorem aNz(h:I64 n)(r:Str):gi (uvI n++r)=(n,((uvI n).length:Int),0):=by unfold gi uvI;rw[bEn r (zigzag n) 0 0 (by have:=aRz h;omega) (.inr rfl),bf,Nat.pow_zero,cz,bCr,bf]
theorem dJ{n:Nat}(h:n<=1000000):I64 (n:Int):=⟨by omega,by omega⟩
theorem aHq{n:Nat}(h:n<=1000000)(r:Str)(hr:n<=r.length):bL (uvI (n:Int)++r)=((n:Int),((uvI (n:Int)).length:Int),0):=by unfold bL;rw[aNz (dJ h)];rw[if_neg (by simp),if_neg (by simp only;omega),if_neg (by simp only[κ];omega)]
theorem aB8{α:Type}(f:α->Str):∀(l:List α),(∀x∈l,1<=(f x).length)->l.length<=(l.flatMap f).length
 |[],_=>ω _
 |x::l,h=>by rw[cf,κ,ξ];have:=aB8 f l (fun y hy=>h y (by simp[hy]));have:=h x (by simp);omega
theorem mV(a b:List α):(a++b).drop a.length=b:=by rw[List.drop_append,cm (ω _),cg,Nat.sub_self,cc]
theorem bBo(a b:List α):(a++b).take a.length=a:=by rw[List.take_append,bc (ω _),Nat.sub_self,List.take_zero,χ]
theorem aLj(r:Str):∀(l:List Int) (a:Nat) (acc:List Int),(∀x∈l,I64 x)->lT l.length (l.flatMap uvI++r) (a:Int) acc=(acc++l,((a+(l.flatMap uvI).length:Nat):Int),0)
 |[],a,acc,_=>by rw[χ];rfl
 |x::l,a,acc,h=>by rw[cf,υ,ξ,lT,aNz (h x (by simp))];rw[if_neg (by simp)];show lT l.length ((uvI x++(l.flatMap uvI++r)).drop ((uvI x).length:Int).toNat) ((a:Int)+((uvI x).length:Int)) (acc++[x])=_;rw[π,mV,show((a:Int)+((uvI x).length:Int))=((a+(uvI x).length:Nat):Int) by omega,aLj r l _ _ (fun y hy=>h y (by simp[hy])),υ,κ,fb];rfl
theorem qD(h:∀x∈l,I64 x)(hl:l.length<=1000000)(r:Str):aH (cS l++r)=(l,((cS l).length:Int),0):=by unfold aH cS;have:=aB8 uvI l (fun x hx=>(cK (h x hx)).1);rw[υ,aHq hl _ (by rw[κ];omega),if_neg (by simp)];show lT (l.length:Int).toNat ((uvI (l.length:Int)++(l.flatMap uvI++r)).drop ((uvI (l.length:Int)).length:Int).toNat) ((uvI (l.length:Int)).length:Int) []=_;rw[π,π,mV,aLj r l _ _ h,cg,κ]
theorem aS8(h:s.length<=1000000)(r:Str):bN (fR s++r)=(s,((fR s).length:Int),0):=by unfold bN fR;rw[υ,aHq h _ (by rw[κ];omega),if_neg (by simp)];show(((uvI (s.length:Int)++(s++r)).drop ((uvI (s.length:Int)).length:Int).toNat).take (s.length:Int).toNat,_,_)=_;rw[π,π,mV,bBo,κ];refine congrArg (fun x=>(s,x,(0:Int))) ?_;show((uvI (s.length:Int)).length:Int)+(s.length:Int)=_;omega
theorem bBp(h:s.length<=1000000):1<=(fR s).length:=by unfold fR;have:=(cK (dJ h)).1;rw[κ];omega
theorem aLa(r:Str):∀(l:List Str) (a:Nat) (acc:List Str),(∀x∈l,x.length<=1000000)->lS l.length (l.flatMap fR++r) (a:Int) acc=(acc++l,((a+(l.flatMap fR).length:Nat):Int),0)
 |[],a,acc,_=>by rw[χ];rfl
 |x::l,a,acc,h=>by rw[cf,υ,ξ,lS,aS8 (h x (by simp))];rw[if_neg (by simp)];show lS l.length ((fR x++(l.flatMap fR++r)).drop ((fR x).length:Int).toNat) ((a:Int)+((fR x).length:Int)) (acc++[x])=_;rw[π,mV,show((a:Int)+((fR x).length:Int))=((a+(fR x).length:Nat):Int) by omega,aLa r l _ _ (fun y hy=>h y (by simp[hy])),υ,κ,fb];rfl
theorem aC4{l:List Str}(h:∀x∈l,x.length<=1000000)(hl:l.length<=1000000)(r:Str):dH (sQ l++r)=(l,((sQ l).length:Int),0):=by unfold dH sQ;have:=aB8 fR l (fun x hx=>bBp (h x hx));rw[υ,aHq hl _ (by rw[κ];omega),if_neg (by simp)];show lS (l.length:Int).toNat ((uvI (l.length:Int)++(l.flatMap fR++r)).drop ((uvI (l.length:Int)).length:Int).toNat) ((uvI (l.length:Int)).length:Int) []=_;rw[π,π,mV,aLa r l _ _ h,cg,κ]
theorem aX5(h:∀x∈l,I64 x)(hl:l.length<=1000000)(k:Int)(c:Nat)(h1:l.length=c)(h2:l.getD 0 0=k):hd (cS l) k c false=some (l,[]):=by unfold hd;have:=qD h hl [];rw[χ]at this;rw[this,if_pos ⟨rfl,h1,h2⟩,if_neg (by decide),if_pos rfl]
theorem aV5{p:List Str}(h:∀x∈l,I64 x)(hl:l.length<=1000000)(hp:∀x∈p,x.length<=1000000)(hpl:p.length<=1000000)(k:Int)(c:Nat)(h1:l.length=c)(h2:l.getD 0 0=k):hd (cS l++sQ p) k c true=some (l,p):=by
 unfold hd;rw[qD h hl (sQ p),if_pos ⟨rfl,h1,h2⟩,if_pos rfl];have e:(cS l++sQ p).drop ((l,((cS l).length:Int),(0:Int)).2.1).toNat=sQ p:=by show(cS l++sQ p).drop ((cS l).length:Int).toNat=sQ p;rw[π,mV]
 rw[e];have:=aC4 hp hpl [];rw[χ]at this;rw[this,if_pos ⟨rfl,by simp only[κ];omega⟩]
abbrev Rd:=Int×(Int×TP)
abbrev Pt:=Int×(Bool×(Str×Str))
theorem bHc(N m:Nat):iP N (m+1)=iT N (iP N m):=rfl
theorem bF4(N m:Nat):eR N (m+1)=eM N (eR N m):=rfl
theorem gS{l:List α}(h:i<l.length):l.drop i=l[i]::l.drop (i+1):=gb h
theorem aAb(hN:20<=N)(hn:I64 n):dX N n=some (aG (uvI n)):=bDp N n hN hn
theorem aKj{N:Nat}(hN:20<=N)(l:List Int)(h:∀x∈l,I64 x)(hl:l.length<=100000):∀(k i m:Nat) (acc:List Int),i+k=l.length->k<m->acc.length<=10+10*i->iP N m l ((l.length:Nat):Int) (i:Int) acc=some (acc++aG ((l.drop i).flatMap uvI))
 |k,i,0,acc,_,h,_=>by omega
 |0,i,m+1,acc,hi,_,_=>by
  rw[bHc];unfold iT;rw[aE (decide_eq_false (by omega)),aD,cm (by omega)];exact congrArg some (χ acc).symm
 |k+1,i,m+1,acc,hi,hm,ha=>by
  have hlt:i<l.length:=by omega
  have hx:=h _ (da hlt);have hu:=cK hx;rw[bHc];unfold iT;rw[aF (decide_eq_true (by omega)),bJ (ε hlt),aAb hN hx,aB,aD,aD,aC (by rw[aP];omega),aM (by omega) (by omega),aD,show((i:Int)+1)=((i+1:Nat):Int) by omega,aKj hN l h hl k (i+1) m _ (by omega) (by omega) (by rw[κ,aP];omega),gS hlt,cf,gZ,υ]
theorem aGu(hN:20<=N)(l:List Int)(h:∀x∈l,I64 x)(hl:l.length<N)(hb:l.length<=100000):dY N l=some (cS l):=by unfold dY wZ pD;rw[aAb hN (dJ (by omega)),aB,aD];have hu:=cK (dJ (show l.length<=1000000 by omega));have:=aKj hN l h hb l.length 0 N (aG (uvI (l.length:Int))) (by omega) hl (by rw[aP];omega);rw[show(((0:Nat):Int))=0 from rfl]at this;rw[this,aB,aD,aB,aD,cc,<-gZ,cQ];rfl
theorem aLh(hN:20<=N)(s:Str)(hs:s.length<=1000000):mZ N s=some (aG (fR s)):=by unfold mZ;have hu:=cK (dJ hs);rw[aAb hN (dJ hs),aB,aD,aC (by rw[aP,aP];omega),aD,<-gZ];rfl
theorem aK1{N:Nat}(hN:20<=N)(l:List Str)(h:∀x∈l,x.length<=100000)(hl:l.length<=100000):∀(k i m:Nat) (acc:List Int),i+k=l.length->k<m->acc.length<=10+200000*i->eR N m l ((l.length:Nat):Int) (i:Int) acc=some (acc++aG ((l.drop i).flatMap fR))
 |k,i,0,acc,_,h,_=>by omega
 |0,i,m+1,acc,hi,_,_=>by
  rw[bF4];unfold eM;rw[aE (decide_eq_false (by omega)),aD,cm (by omega)];exact congrArg some (χ acc).symm
 |k+1,i,m+1,acc,hi,hm,ha=>by
  have hlt:i<l.length:=by omega
  have hx:=h _ (da hlt);have hu:(fR l[i]).length<=200000:=by unfold fR;have:=(cK (dJ (show(l[i]).length<=1000000 by omega))).2;rw[κ];omega
  rw[bF4];unfold eM;rw[aF (decide_eq_true (by omega)),bJ (ε hlt),aLh hN _ (by omega),aB,aD,aD,aC (by rw[aP];omega),aM (by omega) (by omega),aD,show((i:Int)+1)=((i+1:Nat):Int) by omega,aK1 hN l h hl k (i+1) m _ (by omega) (by omega) (by rw[κ,aP];omega),gS hlt,cf,gZ,υ]
theorem aSi(hN:20<=N)(l:List Str)(h:∀x∈l,x.length<=100000)(hl:l.length<N)(hb:l.length<=100000):rI N l=some (aG (sQ l)):=by unfold rI rJ;rw[aAb hN (dJ (by omega)),aB,aD];have hu:=cK (dJ (show l.length<=1000000 by omega));have:=aK1 hN l h hb l.length 0 N (aG (uvI (l.length:Int))) (by omega) hl (by rw[aP];omega);rw[show(((0:Nat):Int))=0 from rfl]at this;rw[this,aB,aD,cc,<-gZ];rfl
def rl(r:Rd):List Int:=[1,r.1,r.2.1,r.2.2.1,r.2.2.2.1,r.2.2.2.2.1,r.2.2.2.2.2]
def aR2(r:Rd):Str:=cS (rl r)
def okR(r:Rd):Prop:=∀x∈rl r,I64 x
theorem nT{β:Type}{l:List α}{d:α}{f:α->Option β}(h:i<l.length):aZ l (i:Int) f=f (l.getD i d):=by rw[bJ (ε h),ba,ε h];rfl
def grd(s:Str):Rd×Int:=
 match hd s 1 7 false with
 |none=>((0,(0,(0,(0,(0,0))))),11)
 |some v=>((v.1.getD 1 0,(v.1.getD 2 0,(v.1.getD 3 0,(v.1.getD 4 0,(v.1.getD 5 0,v.1.getD 6 0))))),0)
theorem aKb(s:Str)(hN:11<=N)(hs:s.length<N)(hb:s.length<=1000000):dL N s=some (grd s):=by
 unfold dL grd;rw[show(7:Int)=((7:Nat):Int)from rfl,aOh s 1 7 false hN hs hb (by omega),aB];cases h:hd s 1 7 false with
 |none=>rfl
 |some v=>
  have hl:=(aLo h).1;unfold oS;rw[rV,show(1:Int)=((1:Nat):Int)from rfl,nT (d:=0) (by omega),show(2:Int)=((2:Nat):Int)from rfl,nT (d:=0) (by omega),show(3:Int)=((3:Nat):Int)from rfl,nT (d:=0) (by omega),show(4:Int)=((4:Nat):Int)from rfl,nT (d:=0) (by omega),show(5:Int)=((5:Nat):Int)from rfl,nT (d:=0) (by omega),show(6:Int)=((6:Nat):Int)from rfl,nT (d:=0) (by omega)];rfl
theorem bD9{r:Rd}(h:okR r):grd (aR2 r)=(r,0):=by unfold grd aR2;rw[aX5 h (by show 7<=_;omega) 1 7 rfl rfl];rfl
def sgb(b:Bool):Int:=if b then 1 else 0
def prt(p:Pt):List Str:=[uvI p.1,uvI (sgb p.2.1),p.2.2.1,p.2.2.2]
def vl(v:Vr):List Int:=[2,v.1,v.2.1,v.2.2.1,v.2.2.2.1,v.2.2.2.2.1,v.2.2.2.2.2.1,v.2.2.2.2.2.2.1]
abbrev vp(v:Vr):List Pt:=v.2.2.2.2.2.2.2
def vV(v:Vr):Str:=cS (vl v)++sQ ((vp v).flatMap prt)
def okP(l:List Pt):Prop:=∀p∈l,I64 p.1/\p.2.2.1.length<=50000/\p.2.2.2.length<=50000
def okV(v:Vr):Prop:=(∀x∈vl v,I64 x)/\(vp v).length<=1000/\okP (vp v)
theorem aT3:I64 0/\I64 1:=⟨⟨by decide,by decide⟩,⟨by decide,by decide⟩⟩
theorem aRv(b:Bool):I64 (sgb b):=by cases b<;>exact⟨by decide,by decide⟩
theorem oI(l:List Pt):(l.flatMap prt).length=4*l.length:=by
 induction l with
 |nil=>rfl
 |cons x l ih=>rw[cf,κ,ih,ξ];show 4+_=_;omega
theorem aSd{l:List Pt}(h:okP l):∀x∈l.flatMap prt,x.length<=50000:=fun x hx=>by
 obtain⟨p,hp,hx⟩:=List.mem_flatMap.1 hx;obtain⟨h1,h2,h3⟩:=h p hp;unfold prt at hx;simp only[bw,dm,or_false]at hx;rcases hx with rfl|rfl|rfl|rfl
 ·have:=(cK h1).2;omega
 ·have:=(cK (aRv p.2.1)).2;omega
 ·exact h2
 ·exact h3
theorem aDf(l:List α)(i:Nat)(h:i<l.length):l.take (i+1)=l.take i++[l[i]]:=by rw[List.take_add_one,ε h];rfl
theorem aVf{k:Nat}:∀l:List Str,k<=1000000->(∀x∈l,x.length<=k)->(l.flatMap fR).length<=(k+10)*l.length
 |[],_,_=>ω _
 |x::l,hk,h=>by
  have h1:=aVf l hk (fun y hy=>h y (by simp[hy]));have h2:=h x (by simp);have h3:=(cK (dJ (show x.length<=1000000 by omega))).2;have h4:(fR x).length<=k+10:=by unfold fR;rw[κ];omega
  rw[cf,κ,ξ,Nat.mul_succ];omega
theorem bBa:∀l:List Int,(∀x∈l,I64 x)->(l.flatMap uvI).length<=10*l.length
 |[],_=>ω _
 |x::l,h=>by have h1:=bBa l (fun y hy=>h y (by simp[hy]));have h2:=(cK (h x (by simp))).2;rw[cf,κ,ξ];omega
theorem aFq(h:∀x∈l,I64 x)(hb:l.length<=1000000):(cS l).length<=10*l.length+10:=by unfold cS;have:=(cK (dJ hb)).2;have:=bBa l h;rw[κ];omega
theorem aVn{l:List Str}(hk:k<=1000000)(h:∀x∈l,x.length<=k)(hb:l.length<=1000000):(sQ l).length<=(k+10)*l.length+10:=by unfold sQ;have:=(cK (dJ hb)).2;have:=aVf l hk h;rw[κ];omega
def one(s:Str):Option Int:=if(gi s).2.2=0/\(gi s).2.1=(s.length:Int)then some (gi s).1 else none
theorem bA6(hN:11<=N)(s:Str):qW N s=some (oS (one s)):=by
 unfold qW one;rw[aDn hN,aB];by_cases e:(gi s).2.2=0
 ·rw[kF e,aN];by_cases hh:(gi s).2.1=(s.length:Int)
  ·rw[vZ N (kF hh),aB,rV,aEz,if_pos ⟨e,hh⟩];rfl
  ·rw[mM N (fA hh),aB,oW,pO,yL,if_neg (fun q=>hh q.2)];rfl
 ·rw[fA e,aL,mM N rfl,aB,oW,pO,yL,if_neg (fun q=>e q.1)];rfl
def pts:List Str->List Pt->Option (List Pt)
 |a::b::c::d::r,acc=>match one a,one b with
  |some st,some ng=>if ng=0\/ng=1 then pts r (acc++[(st,(ng==1,(c,d)))])else none
  |_,_=>none
 |_,acc=>some acc
def vz:Vr:=(0,(0,(0,(0,(0,(0,(0,[])))))))
def vD(l:List Int)(p:List Pt):Vr:=(l.getD 1 0,(l.getD 2 0,(l.getD 3 0,(l.getD 4 0,(l.getD 5 0,(l.getD 6 0,(l.getD 7 0,p)))))))
def gvr(s:Str):Vr×Int:=
 match hd s 2 8 true with
 |none=>(vz,11)
 | some v=>if v.2.length % 4=0 then
   match pts v.2 []with
   |none=>(vz,11)
   |some l=>(vD v.1 l,0)
  else(vz,11)
def fl(v:Vr×Int):Int×(Int×(Int×(Int×(Int×(Int×(Int×(List Pt×Int))))))):=(v.1.1,(v.1.2.1,(v.1.2.2.1,(v.1.2.2.2.1,(v.1.2.2.2.2.1,(v.1.2.2.2.2.2.1,(v.1.2.2.2.2.2.2.1,(v.1.2.2.2.2.2.2.2,v.2))))))))
def pt'(l:List Int):Option (List Pt)->Vr×Int
 |none=>(vz,11)
 |some p=>(vD l p,0)
theorem bL2(N m:Nat):cO N (m+1)=fE N (cO N m):=rfl
theorem nB(N:Nat)(e:Int):aW N e=some 11:=rfl
theorem aQr(N:Nat)(e:Int):gL N e=some e:=rfl
theorem aQj{N:Nat}(hN:11<=N)(v:List Int)(hv:v.length=8):∀(k m:Nat) (l:List Str) (acc:List Pt),l.length=4*k->k<m->acc.length+k<=1000000->
  cO N m v l 0 0 0 0 0 0 0 0 [] acc=some (fl (pt' v (pts l acc)))
 |k,0,l,acc,_,h,_=>by omega
 |0,m+1,l,acc,hl,_,_=>by
  have:l=[]:=fw.1 (by omega);subst this;rw[bL2];unfold fE;rw[aE (by rfl),show(1:Int)=((1:Nat):Int)from rfl,nT (d:=0) (by omega),show(2:Int)=((2:Nat):Int)from rfl,nT (d:=0) (by omega),show(3:Int)=((3:Nat):Int)from rfl,nT (d:=0) (by omega),show(4:Int)=((4:Nat):Int)from rfl,nT (d:=0) (by omega),show(5:Int)=((5:Nat):Int)from rfl,nT (d:=0) (by omega),show(6:Int)=((6:Nat):Int)from rfl,nT (d:=0) (by omega),show(7:Int)=((7:Nat):Int)from rfl,nT (d:=0) (by omega)];simp only[bN7,aQr,aB,aD];rfl
 |k+1,m+1,l,acc,hl,hm,hb=>by
  obtain⟨a,b,c,d,r,rfl⟩:∃a b c d r,l=a::b::c::d::r:=by
   match l,hl with
   |a::b::c::d::r,_=>exact⟨a,b,c,d,r,rfl⟩
   |[],h=>simp at h
   |[_],h=>simp at h;omega
   |[_,_],h=>simp at h;omega
   |[_,_,_],h=>simp at h;omega
  have hr:r.length=4*k:=by simp only[ξ]at hl;omega
  have e4:cw ((a::b::c::d::r).length-4) (c9 4 (a::b::c::d::r))=r:=by show r.take (r.length+4-4)=r;rw[kj,List.take_length]
  have fin:∀(st ng:Int) (x:Bool),x=(ng==1)->(gd? ((((acc.length+[(st,(x,(c,d)))].length)*48)<=140737488355328)) (gd? ((4<=(a::b::c::d::r).length)) (gd? (((a::b::c::d::r).length<=(a::b::c::d::r).length)) (gl? (([]:List Pt).length) ([]:List Pt) (gl? ((acc++[(st,(x,(c,d)))]).length) ((acc++[(st,(x,(c,d)))])) (cO N m v (cw ((a::b::c::d::r).length-4) (c9 4 (a::b::c::d::r))) 0 0 0 0 0 0 0 0 [] (acc++[(st,(x,(c,d)))])))))))=cO N m v r 0 0 0 0 0 0 0 0 [] (acc++[(st,(ng==1,(c,d)))]):=fun st ng x hx=>by subst hx;rw[aC (by simp only[ξ,au];omega),aC (by simp only[ξ];omega),aC (ω _),aD,aD,e4]
  rw[bL2];unfold fE;rw[aF (decide_eq_true (by simp only[ξ];omega)),wM (x:=a) (by decide) rfl,wM (x:=b) (by decide) rfl,bA6 hN,aB,bA6 hN,pts];cases ha:one a with
  |none=>
   unfold oS;rw[oW,nB,aB,aD];rfl
  |some st=>
   cases hb2:one b with
   |none=>
    unfold oS;rw[rV,aB,oW,nB,aB,aD];rfl
   |some ng=>
    unfold oS;rw[rV,aB,rV];have ih:=aQj hN v hv k m r (acc++[(st,(ng==1,(c,d)))]) hr (by omega) (by simp only[κ,ξ,au];omega);by_cases h0:ng=0
    ·rw[kF h0,aN,vZ N rfl,aB,rV,aD,aD,aEz];dsimp only;rw[wM (x:=c) (by decide) rfl,wM (x:=d) (by decide) rfl,aD];refine(fin st ng _ rfl).trans (ih.trans ?_);simp only[h0,true_or,if_true]
    ·rw[fA h0,aL];by_cases h1:ng=1
     ·rw[vZ N (kF h1),aB,rV,aD,aD,aEz];dsimp only;rw[wM (x:=c) (by decide) rfl,wM (x:=d) (by decide) rfl,aD];refine(fin st ng _ rfl).trans (ih.trans ?_);simp only[if_pos (Or.inr h1:ng=0\/ng=1)]
     ·rw[mM N (fA h1),aB,oW,nB,aB,aD,pO,yL];simp only[h0,h1,or_self,if_false];rfl
theorem aJ3(s:Str)(hN:11<=N)(hs:s.length+1<N)(hb:s.length<=100000):iH N s=some (fl (gvr s)):=by
 unfold iH gvr;rw[show(8:Int)=((8:Nat):Int)from rfl,aOh s 2 8 true hN (by omega) (by omega) (by omega),aB];cases h:hd s 2 8 true with
 |none=>rfl
 |some v=>
  obtain⟨hl,_,hp,_⟩:=aLo h;unfold oS;rw[rV];dsimp only;by_cases h4:v.2.length%4=0
  ·have:bo (v.2.length:Int) 4=0:=by rw[show(4:Int)=((4:Nat):Int)from rfl,<-fm,h4];rfl
   rw[vZ N (kF this),aB,rV,aQj hN v.1 hl (v.2.length/4) N v.2 [] (by omega) (by omega) (by simp;omega),if_pos h4];cases pts v.2 []<;>rfl
  ·have:bo (v.2.length:Int) 4≠0:=by rw[show(4:Int)=((4:Nat):Int)from rfl,<-fm];omega
   rw[mM N (fA this),aB,oW,nB,aB,if_neg h4];rfl
theorem aUf(h:I64 n):one (uvI n)=some n:=by unfold one;have:=aNz h [];rw[χ]at this;rw[this,if_pos ⟨rfl,rfl⟩]
theorem aUl:∀(l acc:List Pt),(∀p∈l,I64 p.1)->pts (l.flatMap prt) acc=some (acc++l)
 |[],acc,_=>by rw[χ];rfl
 |p::l,acc,h=>by
  rw[cf];show pts (uvI p.1::uvI (sgb p.2.1)::p.2.2.1::p.2.2.2::l.flatMap prt) acc=_;rw[pts,aUf (h p (by simp)),aUf (aRv _)];have e:((p.1,(sgb p.2.1==1,(p.2.2.1,p.2.2.2))):Pt)=p:=by obtain⟨st,ng,a,b⟩:=p;cases ng<;>rfl
  have h01:sgb p.2.1=0\/sgb p.2.1=1:=by cases p.2.1<;>simp[sgb]
  simp only[if_pos h01];rw[e,aUl l _ (fun q hq=>h q (by simp[hq])),υ];rfl
theorem bE0(h:okV v):gvr (vV v)=(v,0):=by obtain⟨h1,h2,h3⟩:=h;unfold gvr vV;have hp:=aSd h3;rw[aV5 h1 (by show 8<=_;omega) (fun x hx=>by have:=hp x hx;omega) (by rw[oI];omega) 2 8 rfl rfl];simp only;rw[if_pos (by rw[oI];omega),aUl _ [] (fun p hp=>(h3 p hp).1)];rfl
theorem xS{s a b:List α}(h:s=a++b):s.drop a.length=b:=by rw[h];exact mV a b
theorem aUs:∀(s:Str) (k z:Nat),k<=9->z<128^k->(giN k z s).2.2=0->∃y r,s=uvarint y++r/\(0<y\/k=0)/\z+y*128^k<18446744073709551616/\giN k z s=(unz (z+y*128^k),((k+(uvarint y).length:Nat):Int),0)
 |[],k,z,_,_,h=>by cases h
 |c::s,k,z,hk,hz,h=>by
  rw[giN]at h|-;have hcl:=c.toNat_lt;by_cases hb:(k=9/\1<c.toNat)\/(0<k/\c.toNat=0)
  ·rw[if_pos hb]at h;cases h
  ·rw[if_neg hb]at h|-;obtain⟨_,h2,h3⟩:=aQk z k c.toNat hz hk (by omega) (by omega);by_cases hh:c.toNat<128
   ·rw[if_pos hh];rw[Nat.mod_eq_of_lt hh]at h2|-;have e:c.toNat.toUInt8=c:=UInt8.ofNat_toNat;refine⟨c.toNat,s,?_,by omega,h2,?_⟩
    ·rw[uvarint_small hh,e];rfl
    ·rw[uvarint_small hh];rfl
   ·rw[if_neg hh]at h|-;obtain⟨y,r,g1,g2,g3,g4⟩:=aUs s (k+1) _ (by omega) (h3 (by omega)) h;have hy:0<y:=by omega
    have e:z+c.toNat%128*128^k+y*128^(k+1)=z+(c.toNat%128+128*y)*128^k:=by
     have h1:y*128^(k+1)=(128*y)*128^k:=by rw[Nat.pow_succ,Nat.mul_comm (128^k) 128,<-Nat.mul_assoc,Nat.mul_comm y 128]
     rw[h1,fb,<-cn]
    have ec:(((c.toNat%128+128*y)%128+128).toUInt8)=c:=by
     have:(c.toNat%128+128*y)%128+128=c.toNat:=by omega
     rw[this];exact UInt8.ofNat_toNat
    have hu:uvarint (c.toNat%128+128*y)=c::uvarint y:=by rw[uvarint_big (x:=c.toNat%128+128*y) (by omega),ec,show(c.toNat%128+128*y)/128=y by omega]
    refine⟨c.toNat%128+128*y,r,?_,.inl (by omega),by rw[<-e];exact g3,?_⟩
    ·rw[hu,gx,<-g1]
    ·rw[g4,e,hu,ξ,show k+1+(uvarint y).length=k+((uvarint y).length+1) by omega]
theorem bDf(z:Nat):zigzag (unz z)=z:=by unfold unz zigzag;split<;>split<;>omega
theorem aSq(h:(gi s).2.2=0):∃r,s=uvI (gi s).1++r/\(gi s).2.1=((uvI (gi s).1).length:Int):=by unfold gi at*;obtain⟨y,r,h1,_,_,h4⟩:=aUs s 0 0 (by omega) (by decide) h;rw[h4];unfold uvI;dsimp only;rw[bf,Nat.pow_zero,cz,bDf,bf];exact⟨r,h1,rfl⟩
theorem aI8(h:(bL s).2.2=0):∃r,s=uvI (bL s).1++r/\(bL s).2.1=((uvI (bL s).1).length:Int):=by
 unfold bL at*;by_cases h1:(gi s).2.2≠0
 ·rw[if_pos h1]at h;exact absurd h h1
 ·rw[if_neg h1]at h|-;by_cases h2:(gi s).1<0
  ·rw[if_pos h2]at h;cases h
  ·rw[if_neg h2]at h|-;by_cases h3:(gi s).1>(s.length:Int)-(gi s).2.1
   ·rw[if_pos h3]at h;cases h
   ·rw[if_neg h3];exact aSq (by omega)
theorem aKl:∀(n:Nat) (r:Str) (a:Nat) (acc:List Int),(lT n r (a:Int) acc).2.2=0->∃l t,(lT n r (a:Int) acc).1=acc++l/\l.length=n/\r=l.flatMap uvI++t/\(lT n r (a:Int) acc).2.1=((a+(l.flatMap uvI).length:Nat):Int)
 |0,r,a,acc,h=>⟨[],r,by rw[χ];rfl,rfl,rfl,rfl⟩
 |n+1,r,a,acc,h=>by
  rw[lT]at h|-;by_cases he:(gi r).2.2≠0
  ·rw[if_pos he]at h;exact absurd h he
  ·rw[if_neg he]at h|-;obtain⟨q,h1,h2⟩:=aSq (show(gi r).2.2=0 by omega);have hd:r.drop (gi r).2.1.toNat=q:=by rw[h2,π];exact xS h1
   rw[hd,h2,show((a:Int)+((uvI (gi r).1).length:Int))=((a+(uvI (gi r).1).length:Nat):Int) by omega]at h|-;obtain⟨l,t,g1,g2,g3,g4⟩:=aKl n q _ _ h;refine⟨(gi r).1::l,t,by rw[g1,υ];rfl,by rw[ξ,g2],?_,?_⟩
   ·rw[cf,υ,<-g3];exact h1
   ·rw[g4,cf,κ,fb]
theorem aK6(h:(aH s).2.2=0):∃t,s=cS (aH s).1++t/\(aH s).2.1=((cS (aH s).1).length:Int):=by
 unfold aH at*;by_cases h1:(bL s).2.2≠0
 ·rw[if_pos h1]at h;exact absurd h h1
 ·rw[if_neg h1]at h|-;obtain⟨r,g1,g2⟩:=aI8 (show(bL s).2.2=0 by omega);rcases mF s with⟨_,n,u,k1,k2,k3⟩|⟨_,_,k⟩
  ·have e1:(bL s).1=(n:Int):=by rw[k1]
   have hd:s.drop (bL s).2.1.toNat=r:=by rw[g2,π];exact xS g1
   rw[hd,g2,e1,π]at h|-;obtain⟨l,t,j1,j2,j3,j4⟩:=aKl n r _ _ h;rw[cg]at j1;refine⟨t,?_,?_⟩
   ·rw[j1];unfold cS;rw[j2,<-e1,υ,<-j3];exact g1
   ·rw[j4,j1];unfold cS;rw[j2,κ]
  ·omega
theorem aR7(h:(bN s).2.2=0):∃r,s=fR (bN s).1++r/\(bN s).2.1=((fR (bN s).1).length:Int):=by
 unfold bN at*;by_cases h1:(bL s).2.2≠0
 ·rw[if_pos h1]at h;exact absurd h h1
 ·rw[if_neg h1];obtain⟨r,g1,g2⟩:=aI8 (show(bL s).2.2=0 by omega);rcases mF s with⟨_,n,u,k1,k2,k3⟩|⟨_,_,k⟩
  ·have e1:(bL s).1=(n:Int):=by rw[k1]
   have hd:s.drop (bL s).2.1.toNat=r:=by rw[g2,π];exact xS g1
   have hl:s.length=(uvI (n:Int)).length+r.length:=by have:=congrArg List.length g1;rwa[κ,e1]at this
   have hu:u=(uvI (n:Int)).length:=by
    have:(bL s).2.1=(u:Int):=by rw[k1]
    rw[e1]at g2;omega
   rw[hd,e1,π];have ln:(r.take n).length=n:=by rw[bu];omega
   refine⟨r.drop n,?_,?_⟩
   ·dsimp only;unfold fR;rw[ln,<-e1,υ,List.take_append_drop];exact g1
   ·dsimp only;unfold fR;rw[ln,g2,e1,κ,ln];omega
  ·omega
theorem aLq:∀(n:Nat) (r:Str) (a:Nat) (acc:List Str),(lS n r (a:Int) acc).2.2=0->∃l t,(lS n r (a:Int) acc).1=acc++l/\l.length=n/\r=l.flatMap fR++t/\(lS n r (a:Int) acc).2.1=((a+(l.flatMap fR).length:Nat):Int)
 |0,r,a,acc,h=>⟨[],r,by rw[χ];rfl,rfl,rfl,rfl⟩
 |n+1,r,a,acc,h=>by
  rw[lS]at h|-;by_cases he:(bN r).2.2≠0
  ·rw[if_pos he]at h;exact absurd h he
  ·rw[if_neg he]at h|-;obtain⟨q,h1,h2⟩:=aR7 (show(bN r).2.2=0 by omega);have hd:r.drop (bN r).2.1.toNat=q:=by rw[h2,π];exact xS h1
   rw[hd,h2,show((a:Int)+((fR (bN r).1).length:Int))=((a+(fR (bN r).1).length:Nat):Int) by omega]at h|-;obtain⟨l,t,g1,g2,g3,g4⟩:=aLq n q _ _ h;refine⟨(bN r).1::l,t,by rw[g1,υ];rfl,by rw[ξ,g2],?_,?_⟩
   ·rw[cf,υ,<-g3];exact h1
   ·rw[g4,cf,κ,fb]
theorem aV9(h:(dH s).2.2=0):∃t,s=sQ (dH s).1++t/\(dH s).2.1=((sQ (dH s).1).length:Int):=by
 unfold dH at*;by_cases h1:(bL s).2.2≠0
 ·rw[if_pos h1]at h;exact absurd h h1
 ·rw[if_neg h1]at h|-;obtain⟨r,g1,g2⟩:=aI8 (show(bL s).2.2=0 by omega);rcases mF s with⟨_,n,u,k1,k2,k3⟩|⟨_,_,k⟩
  ·have e1:(bL s).1=(n:Int):=by rw[k1]
   have hd:s.drop (bL s).2.1.toNat=r:=by rw[g2,π];exact xS g1
   rw[hd,g2,e1,π]at h|-;obtain⟨l,t,j1,j2,j3,j4⟩:=aLq n r _ _ h;rw[cg]at j1;refine⟨t,?_,?_⟩
   ·rw[j1];unfold sQ;rw[j2,<-e1,υ,<-j3];exact g1
   ·rw[j4,j1];unfold sQ;rw[j2,κ]
  ·omega
theorem aSc{k:Int}{c:Nat}{more:Bool}{v:List Int×List Str}(h:hd s k c more=some v):v.1.length=c/\v.1.getD 0 0=k/\s=cS v.1++(if more then sQ v.2 else[]):=by
 unfold hd at h;split at h
 ·rename_i hh;obtain⟨e,hl,hk⟩:=hh;obtain⟨t,g1,g2⟩:=aK6 e;have hdr:s.drop (aH s).2.1.toNat=t:=by rw[g2,π];exact xS g1
  have hsl:s.length=(cS (aH s).1).length+t.length:=by have:=congrArg List.length g1;rwa[κ]at this
  split at h
  ·rename_i hm;split at h
   ·rename_i hh;cases h;rw[hdr]at hh|-;obtain⟨t',j1,j2⟩:=aV9 hh.1;have:t'=[]:=by apply gv;have:=congrArg List.length j1;rw[κ]at this;have:=hh.2;omega
    subst this;rw[χ]at j1;refine⟨hl,hk,?_⟩;rw[hm,if_pos rfl];dsimp only;rw[<-j1];exact g1
   ·cases h
  ·rename_i hm;split at h
   ·rename_i hh;cases h;have:t=[]:=by apply gv;omega
    subst this;refine⟨hl,hk,?_⟩;rw[if_neg hm];exact g1
   ·cases h
 ·cases h
theorem bGw(h:l.length=7):l=[l.getD 0 0,l.getD 1 0,l.getD 2 0,l.getD 3 0,l.getD 4 0,l.getD 5 0,l.getD 6 0]:=by
 match l,h with
 |[a,b,c,d,e,f,g],_=>rfl
theorem bHe(h:l.length=8):l=[l.getD 0 0,l.getD 1 0,l.getD 2 0,l.getD 3 0,l.getD 4 0,l.getD 5 0,l.getD 6 0,l.getD 7 0]:=by
 match l,h with
 |[a,b,c,d,e,f,g,i],_=>rfl
theorem bFy(h:l.length=6):l=[l.getD 0 0,l.getD 1 0,l.getD 2 0,l.getD 3 0,l.getD 4 0,l.getD 5 0]:=by
 match l,h with
 |[a,b,c,d,e,f],_=>rfl
theorem aMa(h:(grd s).2=0):s=aR2 (grd s).1/\okR (grd s).1:=by
 unfold grd at*;cases hh:hd s 1 7 false with
 |none=>rw[hh]at h;cases h
 |some v=>
  obtain⟨h1,h2,h3⟩:=aSc hh;have hI:=(aLo hh).2.1;dsimp only;have e:v.1=rl ((v.1.getD 1 0,(v.1.getD 2 0,(v.1.getD 3 0,(v.1.getD 4 0,(v.1.getD 5 0,v.1.getD 6 0)))))):=by have:=bGw h1;rw[h2]at this;exact this
  refine⟨?_,?_⟩
  ·unfold aR2;rw[<-e,h3];simp
  ·unfold okR;rw[<-e];exact hI
theorem bNg(s:Str):(grd s).2=0\/grd s=((0,(0,(0,(0,(0,0))))),11):=by
 unfold grd;cases hd s 1 7 false with
 |none=>exact .inr rfl
 |some v=>exact .inl rfl
theorem aUp(h:one s=some n):s=uvI n/\I64 n:=by
 unfold one at h;split at h
 ·rename_i hh;cases h;obtain⟨r,g1,g2⟩:=aSq hh.1;have:r=[]:=by apply gv;have:=congrArg List.length g1;rw[κ]at this;have:=hh.2;omega
  subst this;rw[χ]at g1;rcases yZ s with⟨_,u,_,_,_,_,h5⟩|⟨_,_,h3⟩
  ·exact⟨g1,h5⟩
  ·have:=hh.1;omega
 ·cases h
theorem aUh:∀(k:Nat) (p:List Str) (acc L:List Pt),p.length=4*k->pts p acc=some L->∃M,L=acc++M/\p=M.flatMap prt/\(∀q∈M,I64 q.1)/\∀q∈M,q.2.2.1∈p/\q.2.2.2∈p
 |0,p,acc,L,hp,h=>by
  have:p=[]:=fw.1 (by omega);subst this;cases h;exact⟨[],by simp,rfl,⟨fun q hq=>(dm hq).elim,fun q hq=>(dm hq).elim⟩⟩
 |k+1,p,acc,L,hp,h=>by
  obtain⟨a,b,c,d,r,rfl⟩:∃a b c d r,p=a::b::c::d::r:=by
   match p,hp with
   |a::b::c::d::r,_=>exact⟨a,b,c,d,r,rfl⟩
   |[],h=>simp at h
   |[_],h=>simp at h;omega
   |[_,_],h=>simp at h;omega
   |[_,_,_],h=>simp at h;omega
  have hr:r.length=4*k:=by simp only[ξ]at hp;omega
  rw[pts]at h;cases ha:one a with
  |none=>rw[ha]at h;cases h
  |some st=>
   cases hb:one b with
   |none=>rw[ha,hb]at h;cases h
   |some ng=>
    rw[ha,hb]at h;dsimp only at h;split at h
    ·rename_i h01;obtain⟨M,g1,g2,g3,g4⟩:=aUh k r _ L hr h;obtain⟨ea,ia⟩:=aUp ha;obtain⟨eb,ib⟩:=aUp hb;refine⟨(st,(ng==1,(c,d)))::M,by rw[g1,υ];rfl,?_,?_,?_⟩
     ·rw[cf,<-g2];have:sgb (ng==1)=ng:=by rcases h01 with rfl|rfl<;>rfl
      show _=uvI st::uvI (sgb (ng==1))::c::d::r;rw[this,ea,eb]
     ·intro q hq;rcases bw.1 hq with rfl|hq
      ·exact ia
      ·exact g3 q hq
     ·intro q hq;rcases bw.1 hq with rfl|hq
      ·exact⟨by simp,by simp⟩
      ·have:=g4 q hq;exact⟨by simp[this.1],by simp[this.2]⟩
    ·cases h
theorem bMn(s:Str):(gvr s).2=0\/gvr s=(vz,11):=by
 unfold gvr;cases hd s 2 8 true with
 |none=>exact .inr rfl
 |some v=>
  dsimp only;split
  ·split
   ·exact .inr rfl
   ·exact .inl rfl
  ·exact .inr rfl
theorem bDr(hs:s.length<=4000)(h:(gvr s).2=0):s=vV (gvr s).1/\okV (gvr s).1:=by
 unfold gvr at*;cases hh:hd s 2 8 true with
 |none=>rw[hh]at h;cases h
 |some v=>
  rw[hh]at h;obtain⟨h1,h2,h3⟩:=aSc hh;obtain⟨_,hI,hn,hp⟩:=aLo hh;dsimp only at h|-;split at h
  ·rename_i h4;rw[if_pos h4];split at h
   ·cases h
   ·rename_i L hL;dsimp only;obtain⟨M,g1,g2,g3,g4⟩:=aUh (v.2.length/4) v.2 [] L (by omega) hL;rw[cg]at g1;subst g1;have e:vl (vD v.1 L)=v.1:=by have:=bHe h1;rw[h2]at this;exact this.symm
    have lM:4*L.length=v.2.length:=by rw[g2,oI]
    refine⟨?_,⟨by rw[e];exact hI,by show L.length<=_;omega,fun q hq=>?_⟩⟩
    ·unfold vV;rw[e,show vp (vD v.1 L)=L from rfl,<-g2];simpa using h3
    ·have hq:q∈L:=hq;have:=g4 q hq;have:=hp _ this.1;have:=hp _ (g4 q hq).2;exact⟨g3 q hq,by omega,by omega⟩
  ·cases h
abbrev Hl:=Int×Int
abbrev Rn:=Int×(Int×(List Hl×TN))
abbrev Bk:=Int×(Int×(Int×(Int×(Int×List Rn))))
variable{b:Bk}
def tbl:List Int->List Hl->List Hl
 |a::b::r,acc=>tbl r (acc++[(a,b)])
 |_,acc=>acc
def rnD(l:List Int):Rn:=(l.getD 0 0,(l.getD 1 0,(tbl (l.drop 4) [],(l.getD 2 0,l.getD 3 0))))
def aIs:List Str->List Rn->Option (List Rn)
 |[],acc=>some acc
 | p :: r,acc=>if (aH p).2.2=0/\(aH p).2.1=(p.length:Int)/\4 <= (aH p).1.length/\(aH p).1.length % 2=0 then
   aIs r (acc++[rnD (aH p).1])else none
def bkz:Bk:=(0,(0,(0,(0,(0,[])))))
def bkD(l:List Int)(r:List Rn):Bk:=(l.getD 1 0,(l.getD 2 0,(l.getD 3 0,(l.getD 4 0,(l.getD 5 0,r)))))
def gbl(s:Str):Bk×Int:=
 match hd s 3 6 true with
 |none=>(bkz,11)
 |some v=>match aIs v.2 []with
  |none=>(bkz,11)
  |some l=>(bkD v.1 l,0)
abbrev brs(b:Bk):List Rn:=b.2.2.2.2.2
def hlI(h:Hl):List Int:=[h.1,h.2]
def rnI(r:Rn):List Int:=[r.1,r.2.1,r.2.2.2.1,r.2.2.2.2]++r.2.2.1.flatMap hlI
def bl(b:Bk):List Int:=[3,b.1,b.2.1,b.2.2.1,b.2.2.2.1,b.2.2.2.2.1]
def tW(b:Bk):Str:=cS (bl b)++sQ ((brs b).map fun r=>cS (rnI r))
def okK(b:Bk):Prop:=(∀x∈bl b,I64 x)/\(brs b).length<=1000/\∀r∈brs b,r.2.2.1.length<=1000/\∀x∈rnI r,I64 x
theorem bFk(l:List Hl):(l.flatMap hlI).length=2*l.length:=by
 induction l with
 |nil=>rfl
 |cons x l ih=>rw[cf,κ,ih,ξ];show 2+_=_;omega
theorem kV(r:Rn):(rnI r).length=4+2*r.2.2.1.length:=by unfold rnI;rw[κ,bFk];rfl
theorem aVx:∀(l acc:List Hl),tbl (l.flatMap hlI) acc=acc++l
 |[],acc=>by rw[χ];rfl
 |x::l,acc=>by rw[cf];show tbl (x.1::x.2::l.flatMap hlI) acc=_;rw[tbl,aVx l,υ];rfl
theorem aU6:∀(k:Nat) (l:List Int) (acc:List Hl),l.length=2*k->∃M,tbl l acc=acc++M/\l=M.flatMap hlI
 |0,l,acc,h=>by
  have:l=[]:=fw.1 (by omega);subst this;exact⟨[],by simp[tbl],rfl⟩
 |k+1,l,acc,h=>by
  obtain⟨a,b,r,rfl⟩:∃a b r,l=a::b::r:=by
   match l,h with
   |a::b::r,_=>exact⟨a,b,r,rfl⟩
   |[],h=>simp at h
   |[_],h=>simp at h;omega
  obtain⟨M,g1,g2⟩:=aU6 k r (acc++[(a,b)]) (by simp only[ξ]at h;omega);refine⟨(a,b)::M,by rw[tbl,g1,υ];rfl,?_⟩;rw[cf,<-g2];rfl
theorem aVz(h4:4<=l.length)(h2:l.length%2=0):rnI (rnD l)=l:=by
 obtain⟨a,b,c,d,r,rfl⟩:∃a b c d r,l=a::b::c::d::r:=by
  match l,h4 with
  |a::b::c::d::r,_=>exact⟨a,b,c,d,r,rfl⟩
  |[],h=>simp at h
  |[_],h=>simp at h
  |[_,_],h=>simp at h
  |[_,_,_],h=>simp at h
 obtain⟨M,g1,g2⟩:=aU6 (r.length/2) r [] (by simp only[ξ]at h2;omega);show[a,b,c,d]++(tbl r []).flatMap hlI=_;rw[g1,cg,<-g2];rfl
theorem bGg(r:Rn):rnD (rnI r)=r:=by obtain⟨a,b,t,c,d⟩:=r;show(a,(b,(tbl (t.flatMap hlI) [],(c,d))))=_;rw[aVx,cg]
theorem aPb:∀(l acc:List Rn),(∀r∈l,r.2.2.1.length<=1000/\∀x∈rnI r,I64 x)->aIs (l.map fun r=>cS (rnI r)) acc=some (acc++l)
 |[],acc,_=>by rw[χ];rfl
 |r::l,acc,h=>by obtain⟨h1,h2⟩:=h r (by simp);rw[cx,aIs];have:=qD h2 (by rw[kV];omega) [];rw[χ]at this;rw[this,if_pos ⟨rfl,rfl,by rw[kV];omega,by rw[kV];omega⟩,bGg,aPb l _ (fun q hq=>h q (by simp[hq])),υ];rfl
theorem bDd(h:okK b):gbl (tW b)=(b,0):=by
 obtain⟨h1,h2,h3⟩:=h;unfold gbl tW;have hp:∀x∈(brs b).map fun r=>cS (rnI r),x.length<=1000000:=fun x hx=>by obtain⟨r,hr,rfl⟩:=c7.1 hx;have:=aFq (h3 r hr).2 (by rw[kV];have:=(h3 r hr).1;omega);rw[kV]at this;have:=(h3 r hr).1;omega
 rw[aV5 h1 (by show 6<=_;omega) hp (by rw[μ];omega) 3 6 rfl rfl];simp only;rw[aPb _ [] h3];rfl
theorem bNi(s:Str):(gbl s).2=0\/gbl s=(bkz,11):=by
 unfold gbl;cases hd s 3 6 true with
 |none=>exact .inr rfl
 |some v=>
  dsimp only;cases aIs v.2 []with
  |none=>exact .inr rfl
  |some l=>exact .inl rfl
theorem aO1:∀(p:List Str) (acc L:List Rn),aIs p acc=some L->∃M,L=acc++M/\p=M.map (fun r=>cS (rnI r))/\∀r∈M,2*r.2.2.1.length<=(cS (rnI r)).length/\∀x∈rnI r,I64 x
 |[],acc,L,h=>by
  cases h;exact⟨[],by simp,rfl,fun q hq=>(dm hq).elim⟩
 |q::p,acc,L,h=>by
  rw[aIs]at h;split at h
  ·rename_i hh;obtain⟨e,h1,h2,h3⟩:=hh;obtain⟨M,g1,g2,g3⟩:=aO1 p _ L h;obtain⟨t,j1,j2⟩:=aK6 e;have:t=[]:=by apply gv;have:=congrArg List.length j1;rw[κ]at this;omega
   subst this;rw[χ]at j1;have hI:∀x∈(aH q).1,I64 x:=by
    rcases nI q with⟨_,u,_,_,_,h⟩|h
    ·exact h
    ·exact absurd e h
   refine⟨rnD (aH q).1::M,by rw[g1,υ];rfl,?_,?_⟩
   ·rw[cx,aVz h2 h3,<-j1,<-g2]
   ·intro r hr;rcases bw.1 hr with rfl|hr
    ·rw[aVz h2 h3];refine⟨?_,hI⟩;have l1:(aH q).1.length=4+2*(rnD (aH q).1).2.2.1.length:=by have:=kV (rnD (aH q).1);rwa[aVz h2 h3]at this
     have l2:=aB8 uvI (aH q).1 fun x hx=>(cK (hI x hx)).1;unfold cS;rw[κ];omega
    ·exact g3 r hr
  ·cases h
theorem bEy(hs:s.length<=1000)(h:(gbl s).2=0):s=tW (gbl s).1/\okK (gbl s).1:=by
 unfold gbl at*;cases hh:hd s 3 6 true with
 |none=>rw[hh]at h;cases h
 |some v=>
  rw[hh]at h;obtain⟨h1,h2,h3⟩:=aSc hh;obtain⟨_,hI,hn,hp⟩:=aLo hh;dsimp only at h|-;cases hL:aIs v.2 []with
  |none=>rw[hL]at h;cases h
  |some L=>
   obtain⟨M,g1,g2,g3⟩:=aO1 v.2 [] L hL;rw[cg]at g1;subst g1;dsimp only;have e:bl (bkD v.1 L)=v.1:=by have:=bFy h1;rw[h2]at this;exact this.symm
   refine⟨?_,⟨by rw[e];exact hI,?_,fun q hq=>?_⟩⟩
   ·unfold tW;rw[e,show brs (bkD v.1 L)=L from rfl,<-g2];simpa using h3
   ·have:v.2.length=L.length:=by rw[g2,μ]
    show L.length<=_;omega
   ·have hq:q∈L:=hq;refine⟨?_,(g3 q hq).2⟩;have:=(g3 q hq).1;have:=hp (cS (rnI q)) (by rw[g2];exact c7.2 ⟨q,hq,rfl⟩);omega
theorem bNx(m:Nat):kK (m+1)=sK (kK m):=rfl
theorem aKx:∀(k z m:Nat) (a:List Int),z<128^(k+1)->z<18446744073709551616->k<m->a.length+k<1000000->kK m (z:Int) a=some (a++aG (uvarint z))
 |k,z,0,a,_,_,h,_=>by omega
 |k,z,m+1,a,hz,hz2,hm,hal=>by
  rw[bNx];unfold sK;by_cases h:128<=z
  ·obtain⟨k',rfl⟩:∃k',k=k'+1:=⟨k-1,by cases k with
    |zero=>have:128^(0+1)=128:=rfl;omega
    |succ k=>rfl⟩
   have e0:bo (z:Int) 128=((z%128:Nat):Int):=by rw[show(128:Int)=((128:Nat):Int)from rfl,<-fm]
   have e1:δ .u8 ((δ .u8 (bo (z:Int) 128))+128)=((z%128+128:Nat):Int):=by rw[e0,q8,show(((z%128%256:Nat):Int)+128)=((z%128%256+128:Nat):Int) by omega,q8];omega
   have e4:δ .u64 (dk (z:Int) 128)=((z/128:Nat):Int):=by rw[show(128:Int)=((128:Nat):Int)from rfl,<-jz,q64 (by omega) (by omega)]
   rw[e1,e4,aF (decide_eq_true (by omega)),aD,aC (by simp only[ξ,au];omega),aD];rw[aKx k' (z/128) m (a++[((z%128+128:Nat):Int)]) (by have:128^(k'+1+1)=128^(k'+1)*128:=rfl;omega) (by omega) (by omega) (by simp only[κ,ξ,au];omega),uvarint_big h,υ];refine congrArg (fun l=>some (a++l)) ?_;show _::aG (uvarint (z/128))=(((z%128+128).toUInt8.toNat:Nat):Int)::aG (uvarint (z/128));rw[show(z%128+128).toUInt8.toNat=z%128+128 by
    show(z%128+128)%256=_;omega]
  ·rw[aE (decide_eq_false (by omega)),aD,aC (by simp only[ξ,au];omega),aD,q8,uvarint_small (by omega)];refine congrArg (fun l=>some (a++l)) ?_;show[((z%256:Nat):Int)]=[((z.toUInt8.toNat:Nat):Int)];rw[show z.toUInt8.toNat=z%256 from rfl]
theorem aY9(hN:20<=N)(hn:I64 n):fS N n=some (aG (uvI n)):=by
 have hz:=aRz hn;obtain⟨h1,h2⟩:=hn;have w:∀x:Int,δ .u64 x=x%18446744073709551616:=fun x=>IntKind.wrap_u64 x;have fin:∀x:Int,x=((zigzag n:Nat):Int)->kK N x []=some (aG (uvI n)):=fun x hx=>by subst hx;rw[aKx 9 (zigzag n) N [] (by have:128^(9+1)=1180591620717411303424:=rfl;omega) hz (by omega) (by simp),cg];rfl
 unfold fS;by_cases h:n<0
 ·rw[aF (decide_eq_true h),aM (by omega) (by omega),aB];refine fin _ ?_;rw[w,w,w];unfold zigzag;rw[if_neg (by omega)];omega
 ·rw[aE (decide_eq_false h),aB];refine fin _ ?_;rw[w,w];unfold zigzag;rw[if_pos (by omega)];omega
theorem bGt(N m:Nat):mY N (m+1)=mW N (mY N m):=rfl
theorem aIm{N:Nat}(hN:20<=N)(l:List Int)(h:∀x∈l,I64 x)(hl:l.length<=100000):∀(k i m:Nat) (acc:List Int),i+k=l.length->k<m->acc.length<=10+10*i->mY N m l (i:Int) acc=some (acc++aG ((l.drop i).flatMap uvI))
 |k,i,0,acc,_,h,_=>by omega
 |0,i,m+1,acc,hi,_,_=>by
  rw[bGt];unfold mW;rw[aE (decide_eq_false (by omega)),aD,cm (by omega)];exact congrArg some (χ acc).symm
 |k+1,i,m+1,acc,hi,hm,ha=>by
  have hlt:i<l.length:=by omega
  have hx:=h _ (da hlt);have hu:=cK hx;rw[bGt];unfold mW;rw[aF (decide_eq_true (by omega)),bJ (ε hlt),aY9 hN hx,aB,aD,aD,aC (by rw[aP];omega),aM (by omega) (by omega),aD,show((i:Int)+1)=((i+1:Nat):Int) by omega,aIm hN l h hl k (i+1) m _ (by omega) (by omega) (by rw[κ,aP];omega),gS hlt,cf,gZ,υ]
theorem aBs(hN:20<=N)(l:List Int)(h:∀x∈l,I64 x)(hl:l.length<N)(hb:l.length<=100000):cE N l=some (cS l):=by unfold cE vC;rw[aY9 hN (dJ (by omega)),aB,aD];have hu:=cK (dJ (show l.length<=1000000 by omega));have:=aIm hN l h hb l.length 0 N (aG (uvI (l.length:Int))) (by omega) hl (by rw[aP];omega);rw[show(((0:Nat):Int))=0 from rfl]at this;rw[this,aB,aD,cc,<-gZ,cQ];rfl
theorem xW(hN:20<=N)(h:I64 n):cM N n=some (uvI n):=by unfold cM;rw[aY9 hN h,aB,aD,cQ]
theorem bB3(hN:20<=N)(s:Str)(hs:s.length<=1000000):kN N s=some (aG (fR s)):=by unfold kN;have hu:=cK (dJ hs);rw[aY9 hN (dJ hs),aB,aD,aC (by rw[aP,aP];omega),aD,<-gZ];rfl
theorem bGn(N m:Nat):iK N (m+1)=iB N (iK N m):=rfl
theorem aI5{N:Nat}(hN:20<=N)(l:List Str)(h:∀x∈l,x.length<=100000)(hl:l.length<=100000):∀(k i m:Nat) (acc:List Int),i+k=l.length->k<m->acc.length<=10+200000*i->iK N m l (i:Int) acc=some (acc++aG ((l.drop i).flatMap fR))
 |k,i,0,acc,_,h,_=>by omega
 |0,i,m+1,acc,hi,_,_=>by
  rw[bGn];unfold iB;rw[aE (decide_eq_false (by omega)),aD,cm (by omega)];exact congrArg some (χ acc).symm
 |k+1,i,m+1,acc,hi,hm,ha=>by
  have hlt:i<l.length:=by omega
  have hx:=h _ (da hlt);have hu:(fR l[i]).length<=200000:=by unfold fR;have:=(cK (dJ (show(l[i]).length<=1000000 by omega))).2;rw[κ];omega
  rw[bGn];unfold iB;rw[aF (decide_eq_true (by omega)),bJ (ε hlt),bB3 hN _ (by omega),aB,aD,aD,aC (by rw[aP];omega),aM (by omega) (by omega),aD,show((i:Int)+1)=((i+1:Nat):Int) by omega,aI5 hN l h hl k (i+1) m _ (by omega) (by omega) (by rw[κ,aP];omega),gS hlt,cf,gZ,υ]
theorem aPz(hN:20<=N)(l:List Str)(h:∀x∈l,x.length<=100000)(hl:l.length<N)(hb:l.length<=100000):gT N l=some (aG (sQ l)):=by unfold gT;rw[aY9 hN (dJ (by omega)),aB,aD];have hu:=cK (dJ (show l.length<=1000000 by omega));have:=aI5 hN l h hb l.length 0 N (aG (uvI (l.length:Int))) (by omega) hl (by rw[aP];omega);rw[show(((0:Nat):Int))=0 from rfl]at this;rw[this,cc,<-gZ];rfl
theorem bBh(hN:20<=N){r:Rd}(h:okR r):gU N r=some (aR2 r):=by unfold gU;rw[show[1,r.1,r.2.1,r.2.2.1,r.2.2.2.1,r.2.2.2.2.1,r.2.2.2.2.2]=rl r from rfl,aBs hN _ h (by show 7<N;omega) (by show 7<=_;omega),aB];rfl
theorem bLd(N:Nat)(b:Bool):uW N b=some (sgb b):=by cases b<;>rfl
theorem bMj(N m:Nat):iO N (m+1)=iF N (iO N m):=rfl
theorem aKe{N:Nat}(hN:20<=N)(v:Vr)(hv:okV v)(hl:4*(vp v).length<N):∀(k i m:Nat),i+k=(vp v).length->k<m->iO N m (i:Int) v.1 v.2.1 v.2.2.1 v.2.2.2.1 v.2.2.2.2.1 v.2.2.2.2.2.1 v.2.2.2.2.2.2.1 (vp v) (((vp v).take i).flatMap prt)=some (vV v)
 |k,i,0,_,h=>by omega
 |0,i,m+1,hi,_=>by
  obtain⟨h1,h2,h3⟩:=hv;rw[bMj];unfold iF;rw[aE (decide_eq_false (by omega)),bc (by omega)];have e:=aBs hN (vl v) h1 (by show 8<N;omega) (by show 8<=_;omega);show bd? (cE N (vl v)) _=_;have hs:=aSd h3;rw[e,aB,aD,aPz hN _ (fun x hx=>by have:=hs x hx;omega) (by rw[oI];omega) (by rw[oI];omega),aB,aD,cQ];refine aC ?_;have a1:=aFq h1 (by show 8<=_;omega);have a2:=aVn (by omega) hs (by rw[oI];omega);have h9:(vl v).length=8:=rfl;rw[oI]at a2;have a3:(50000+10)*(4*(vp v).length)<=50010*4000:=Nat.mul_le_mul_left _ (by omega);omega
 |k+1,i,m+1,hi,hm=>by
  have hlt:i<(vp v).length:=by omega
  obtain⟨h1,h2,h3⟩:=hv;obtain⟨g1,g2,g3⟩:=h3 _ (da hlt);have hlen:(((vp v).take i).flatMap prt).length<=4000:=by rw[oI,bu];omega
  have ih:=aKe hN v ⟨h1,h2,h3⟩ hl k (i+1) m (by omega) (by omega);rw[aDf _ _ hlt,List.flatMap_append]at ih;have e:([(vp v)[i]]:List Pt).flatMap prt=[uvI (vp v)[i].1,uvI (sgb (vp v)[i].2.1),(vp v)[i].2.2.1,(vp v)[i].2.2.2]:=by rw[cf,List.flatMap_nil,χ];rfl
  rw[e]at ih;rw[bMj];unfold iF;rw[aF (decide_eq_true (by omega)),bJ (ε hlt),xW hN g1,aB,bLd,aB,xW hN (aRv _),aB,aD,aC (by simp only[ξ,au];omega),aM (by omega) (by omega),aD];exact ih
theorem bBx(hN:20<=N)(h:okV v)(hl:4*(vp v).length<N):kQ N v=some (vV v):=by unfold kQ;exact aKe hN v h hl (vp v).length 0 N (by omega) (by omega)
def vlo(s:Str):Nat->Nat
 |0=>0
 |k+1=>vlo s k+(s.getD k 0).toNat%128*128^k
theorem bA0(s:Str):∀k,vlo s k<128^k
 |0=>by show 0<1;decide
 |k+1=>by have h:=bA0 s k;have h1:(s.getD k 0).toNat%128*128^k<=127*128^k:=cu _ (by omega);show vlo s k+_<128^k*128;omega
def bMl(k y:Nat):Option TF:=some (unz y,(((k+1:Nat):Int),0))
theorem bGa(m:Nat):fK (m+1)=jY (fK m):=rfl
theorem bEx(s:Str)(h:i<s.length):(aG s)[i]?=some (((s.getD i 0).toNat:Nat):Int):=by rw[aC7,ε h,ba,ε h];rfl
theorem bGe(s:Str)(K:Nat)(hK:K<s.length)(hK9:K<=9):∀(i m acc:Nat),i<=K+1->i<m->acc*128^i+vlo s i<18446744073709551616->
  fK m (aG s) (K:Int) (acc:Int) ((i:Int)-1)=bMl K (acc*128^i+vlo s i)
 |_,0,_,_,h,_=>absurd h (Nat.not_lt_zero _)
 |0,m+1,acc,_,_,hb=>by
  have hb:acc<18446744073709551616:=by
   have:acc*128^0+vlo s 0=acc:=by rw[Nat.pow_zero,cz];rfl
   omega
  rw[bGa];unfold jY;have e0:bo (acc:Int) 2=((acc%2:Nat):Int):=by rw[show(2:Int)=((2:Nat):Int)from rfl,<-fm]
  have e1:δ .u64 (dk (acc:Int) 2)=((acc/2:Nat):Int):=by rw[show(2:Int)=((2:Nat):Int)from rfl,<-jz,q64 (by omega) (by omega)]
  have e2:δ .i64 ((acc/2:Nat):Int)=((acc/2:Nat):Int):=vG (by omega) (by omega);rw[aE (decide_eq_false (by omega)),e0,e1,e2];have e3:acc*128^0+vlo s 0=acc:=by rw[Nat.pow_zero,cz];rfl
  rw[e3];unfold bMl unz;by_cases h:acc%2=1
  ·rw[aF (by rw[h];rfl),aM (by omega) (by omega),aM (by omega) (by omega),if_neg (by omega),show(-1:Int)-((acc/2:Nat):Int)=-((acc/2:Nat):Int)-1 by omega,show(K:Int)+1=((K+1:Nat):Int) by omega]
  ·have h0:acc%2=0:=by omega
   rw[aE (by rw[h0];rfl),aM (by omega) (by omega),if_pos h0,show(K:Int)+1=((K+1:Nat):Int) by omega]
 |i+1,m+1,acc,hi,hm,hb=>by
  have hlt:i<s.length:=by omega
  have hg:=bEx s hlt;have hc:=(s.getD i 0).toNat_lt;have e:acc*128^(i+1)+vlo s (i+1)=(acc*128+(s.getD i 0).toNat%128)*128^i+vlo s i:=by show acc*(128^i*128)+(vlo s i+(s.getD i 0).toNat%128*128^i)=_;rw[cn,Nat.mul_assoc acc 128,Nat.mul_comm 128 (128^i)];omega
  rw[e]at hb|-;generalize(s.getD i 0).toNat=c at*;have p1:0<128^i:=Nat.pow_pos (by decide);have hle:acc*128+c%128<=(acc*128+c%128)*128^i:=Nat.le_mul_of_pos_right _ p1;rw[bGa];unfold jY;have e0:bo (c:Int) 128=((c%128:Nat):Int):=by rw[show(128:Int)=((128:Nat):Int)from rfl,<-fm]
  rw[show((i+1:Nat):Int)-1=(i:Int) by omega,aF (decide_eq_true (by omega)),bJ hg,aM (by omega) (by omega),e0,q64 (x:=((c%128:Nat):Int)) (by omega) (by omega),show(acc:Int)*128=((acc*128:Nat):Int) by omega,q64 (x:=((acc*128:Nat):Int)) (by omega) (by omega),show((acc*128:Nat):Int)+((c%128:Nat):Int)=((acc*128+c%128:Nat):Int) by omega,q64 (by omega) (by omega)];exact bGe s K hK hK9 i m _ (by omega) (by omega) hb
theorem aZg(N m:Nat):jK N (m+1)=fN N (jK N m):=rfl
theorem bFo{N:Nat}(hN:20<=N)(s:Str):∀(r:Str) (k m:Nat),s.drop k=r->k<=s.length->k<=9->10<m+k->jK N m (aG s) (k:Int)=some (giN k (vlo s k) r)
 |_,_,0,_,_,_,h=>by omega
 |[],k,m+1,hr,hks,hk,hm=>by
  have:s.length<=k:=by have:=congrArg List.length hr;rw[aq,au]at this;omega
  rw[aZg];unfold fN;rw[aP,aE (decide_eq_false (by omega)),aB];dsimp only;rw[aL,aE (by rw[beq_eq_false_iff_ne];omega),aP];rw[aF (by rw[beq_iff_eq];omega)];rfl
 |c::r,k,m+1,hr,_,hk,hm=>by
  have hlen:k<s.length:=by have:=congrArg List.length hr;rw[aq,ξ]at this;omega
  have hc:s[k]=c:=by have:=congrArg (·[0]?) hr;simp only[dv,Nat.add_zero,fh]at this;rw[ε hlen]at this;exact Option.some.inj this
  have hcD:s.getD k 0=c:=by rw[ba,ε hlen,hc];rfl
  have hr':s.drop (k+1)=r:=by have:=congrArg List.tail hr;rw[List.tail_drop]at this;exact this
  have hcl:=c.toNat_lt;have hget:(aG s)[k]?=some (c.toNat:Int):=by rw[aC7,ε hlen,hc];rfl
  have hv:vlo s (k+1)=vlo s k+c.toNat%128*128^k:=by show vlo s k+(s.getD k 0).toNat%128*128^k=_;rw[hcD]
  rw[aZg,giN];unfold fN;rw[aP,aF (decide_eq_true (by omega)),aF (decide_eq_true (by omega)),bJ hget,aB];dsimp only;by_cases h128:c.toNat<128
  ·--the last byte
   rw[aE (decide_eq_false (by omega)),aE (by rw[beq_eq_false_iff_ne];omega),aP,aE (by rw[beq_eq_false_iff_ne];omega)];have fin:∀x:Bool,x=decide ((k=9/\1<c.toNat)\/(0<k/\c.toNat=0))->(bd? (some (aG s,(k:Int),x)) fun w10=>if? (w10.2.2) (some (((0:Int),((0:Int),(11:Int))))) (fK N w10.1 w10.2.1 0 w10.2.1))=some (if(k=9/\1<c.toNat)\/(0<k/\c.toNat=0)then(0,0,11)else if c.toNat<128 then(unz (vlo s k+c.toNat%128*128^k),((k+1:Nat):Int),0)else giN (k+1) (vlo s k+c.toNat%128*128^k) r):=by
    intro x hx;subst hx;rw[aB];dsimp only;by_cases hb:(k=9/\1<c.toNat)\/(0<k/\c.toNat=0)
    ·rw[aF (decide_eq_true hb),if_pos hb]
    ·rw[aE (decide_eq_false hb),if_neg hb,if_pos h128];have hbd:=(aQk (vlo s k) k c.toNat (bA0 s k) hk (by omega) (by omega)).2.1;have:=bGe s k hlen hk (k+1) N 0 (ω _) (by omega) (by rw[Nat.zero_mul,bf,hv];exact hbd);rw[show((k+1:Nat):Int)-1=(k:Int) by omega,Nat.zero_mul,bf,hv]at this;exact this
   by_cases h9:k=9
   ·rw[aF (by rw[beq_iff_eq];omega),bJ hget];by_cases h1:1<c.toNat
    ·rw[aF (decide_eq_true (by omega))];exact fin _ (decide_eq_true (.inl ⟨h9,h1⟩)).symm
    ·rw[aE (decide_eq_false (by omega)),aF (decide_eq_true (by omega)),bJ hget];refine fin _ ?_;rw[ef,beq_iff_eq,decide_eq_true_eq];omega
   ·rw[aE (by rw[beq_eq_false_iff_ne];omega)];by_cases h0:0<k
    ·rw[aF (decide_eq_true (by omega)),bJ hget];refine fin _ ?_;rw[ef,beq_iff_eq,decide_eq_true_eq];omega
    ·rw[aE (decide_eq_false (by omega))];refine fin _ ?_;rw[ef,decide_eq_true_eq];constructor
     ·intro h;cases h
     ·intro h;omega
  ·rw[aF (decide_eq_true (by omega)),aM (by omega) (by omega),show(k:Int)+1=((k+1:Nat):Int) by omega];by_cases h9:k=9
   ·subst h9;rw[if_pos (.inl ⟨rfl,by omega⟩)];obtain⟨m,rfl⟩:∃m',m=m'+1:=⟨m-1,by omega⟩;rw[aZg];unfold fN;by_cases hl:10<s.length
    ·rw[aP,aF (decide_eq_true (by omega)),aE (by rfl),aB];rfl
    ·rw[aP,aE (decide_eq_false (by omega)),aB];rfl
   ·rw[if_neg (by omega),if_neg h128,bFo hN s r (k+1) m hr' (by omega) (by omega) (by omega),hv]
theorem aFo(hN:20<=N)(s:Str):dZ N (aG s)=some (gi s):=by unfold dZ;exact bFo hN s s 0 N rfl (by omega) (by omega) (by omega)
theorem aG3(hN:20<=N)(s:Str)(hs:s.length<=1000000):iY N (aG s) 1=some (bL s):=by
 unfold iY bL;rw[aFo hN,aB,aP];rcases yZ s with⟨e,u,h1,h2,h3,h4,h5⟩|⟨h1,h2,h3⟩
 ·obtain⟨b1,b2⟩:=h5;rw[jZ e,aL,if_neg (by rw[e];simp),h1,Int.tdiv_one];by_cases hn:(gi s).1<0
  ·rw[aF (decide_eq_true hn),if_pos hn]
  ·rw[aE (decide_eq_false hn),if_neg hn,aM (by omega) (by omega),aC (by decide),aM (by omega) (by omega)];by_cases hg:(gi s).1>(s.length:Int)-(u:Int)
   ·rw[aF (decide_eq_true hg),if_pos hg]
   ·rw[aE (decide_eq_false hg),if_neg hg]
 ·have hne:(gi s).2.2≠0:=by omega
  rw[mH hne,aN,if_pos hne]
theorem bBi(N m:Nat):iI N (m+1)=iM N (iI N m):=rfl
theorem aEi{N:Nat}(hN:20<=N)(s:Str)(v:Nat)(hs:s.length<=1000000):∀(n a b m:Nat) (acc:List Int),v=b+n->a<=s.length->b+n<=1000000->acc.length=b->n<m->
  iI N m (aG s) (v:Int) (a:Int) (b:Int) acc=some (swp (lT n (s.drop a) (a:Int) acc))
 |n,a,b,0,acc,_,_,_,_,h=>by omega
 |0,a,b,m+1,acc,hv,ha,hb,hacc,_=>by
  rw[bBi];unfold iM;rw[aE (decide_eq_false (by omega)),aD];rfl
 |n+1,a,b,m+1,acc,hv,ha,hb,hacc,hm=>by
  rw[bBi];unfold iM;rw[aF (decide_eq_true (by omega)),aC (by omega),π,aC (by rw[aP];exact ha),aC (ω _),xQ,aFo hN,aB,lT];rcases yZ (s.drop a)with⟨e,u,h1,h2,h3,h4,h5⟩|⟨h1,h2,h3⟩
  ·rw[aq]at h3;rw[jZ e,aL,if_neg (by rw[e];simp),aD,aC (by simp only[ξ,au];omega),h1,aM (by omega) (by omega),aM (by omega) (by omega),aD,show((a:Int)+(u:Int))=((a+u:Nat):Int) by omega,show((b:Int)+1)=((b+1:Nat):Int) by omega,
    aEi hN s v hs n (a+u) (b+1) m _ (by omega) (by omega) (by omega) (by simp[hacc]) (by omega),π,dh]
  ·have hne:(gi (s.drop a)).2.2≠0:=by omega
   rw[mH hne,aN,if_pos hne];rfl
theorem aCk(s:Str)(hN:20<=N)(hs:s.length<N)(hb:s.length<=1000000):dN N (aG s)=some (swp (aH s)):=by
 unfold dN aH;rw[aG3 hN s hb,aB];rcases mF s with⟨e,n,u,h1,h2,h3⟩|⟨h1,h2,h3⟩
 ·rw[jZ e,aL,if_neg (by rw[e];simp)];have e1:(bL s).1=(n:Int):=by rw[h1]
  have e2:(bL s).2.1=(u:Int):=by rw[h1]
  rw[e2,e1];have:=aEi hN s n hb n u 0 N [] (by omega) (by omega) (by omega) rfl (by omega);rw[show(((0:Nat):Int))=0 from rfl]at this;rw[this,π,π]
  try rfl
 ·have hne:(bL s).2.2≠0:=by omega
  rw[mH hne,aN,if_pos hne]
  try rfl
theorem aXq(s:Str)(hN:20<=N)(hb:s.length<=1000000):jN N (aG s)=some (bN s):=by
 unfold jN;rw[aFo hN,aB,aP];rcases yZ s with⟨e,u,h1,h2,h3,h4,h5⟩|⟨h1,h2,h3⟩
 ·obtain⟨b1,b2⟩:=h5;rw[jZ e,aL,h1];by_cases hn:(gi s).1<0
  ·have hl:bL s=(0,0,11):=by unfold bL;rw[if_neg (by rw[e];simp),if_pos hn]
   rw[aF (decide_eq_true hn),bN,hl];rfl
  ·rw[aE (decide_eq_false hn),aM (by omega) (by omega)];by_cases hg:(gi s).1>(s.length:Int)-(u:Int)
   ·have hl:bL s=(0,0,10):=by unfold bL;rw[if_neg (by rw[e];simp),if_neg hn,h1,if_pos hg]
    rw[aF (decide_eq_true hg),bN,hl];rfl
   ·have hl:bL s=((gi s).1,(u:Int),0):=by unfold bL;rw[if_neg (by rw[e];simp),if_neg hn,h1,if_neg hg]
    rw[aE (decide_eq_false hg),aM (by omega) (by omega),aC (by omega),aC (by omega),aC (by omega),aC (by omega),aM (by omega) (by omega),π,show((u:Int)+(gi s).1).toNat-u=(gi s).1.toNat by omega,<-zS,<-aG6,cQ,bN,hl];rfl
 ·have hne:(gi s).2.2≠0:=by omega
  have hl:bL s=(0,0,(gi s).2.2):=by unfold bL;rw[if_pos hne]
  rw[mH hne,aN,bN,hl,if_pos (by exact hne)]
theorem aY2(N m:Nat):eU N (m+1)=eV N (eU N m):=rfl
theorem aD5{N:Nat}(hN:20<=N)(s:Str)(v:Nat)(hs:s.length<=1000000):∀(n a b m:Nat) (acc:List Str),v=b+n->a<=s.length->b+n<=1000000->acc.length=b->n<m->
  eU N m (aG s) (v:Int) (a:Int) (b:Int) acc=some (swp (lS n (s.drop a) (a:Int) acc))
 |n,a,b,0,acc,_,_,_,_,h=>by omega
 |0,a,b,m+1,acc,hv,ha,hb,hacc,_=>by
  rw[aY2];unfold eV;rw[aE (decide_eq_false (by omega)),aD];rfl
 |n+1,a,b,m+1,acc,hv,ha,hb,hacc,hm=>by
  rw[aY2];unfold eV;rw[aF (decide_eq_true (by omega)),aC (by omega),π,aC (by rw[aP];exact ha),aC (ω _),xQ,aXq _ hN (by rw[aq];omega),aB,lS];rcases aDk (s.drop a)with⟨e,u,h1,h2,h3,h4⟩|⟨h1,h2,h3⟩
  ·rw[aq]at h3;rw[jZ e,aL,if_neg (by rw[e];simp),aD,aC (by simp only[ξ,au];omega),h1,aM (by omega) (by omega),aM (by omega) (by omega),aD,show((a:Int)+(u:Int))=((a+u:Nat):Int) by omega,show((b:Int)+1)=((b+1:Nat):Int) by omega,
    aD5 hN s v hs n (a+u) (b+1) m _ (by omega) (by omega) (by omega) (by simp[hacc]) (by omega),π,dh]
  ·have hne:(bN (s.drop a)).2.2≠0:=by omega
   rw[mH hne,aN,if_pos hne];rfl
theorem aEm(s:Str)(hN:20<=N)(hs:s.length<N)(hb:s.length<=1000000):dW N (aG s)=some (swp (dH s)):=by
 unfold dW dH;rw[aG3 hN s hb,aB];rcases mF s with⟨e,n,u,h1,h2,h3⟩|⟨h1,h2,h3⟩
 ·rw[jZ e,aL,if_neg (by rw[e];simp)];have e1:(bL s).1=(n:Int):=by rw[h1]
  have e2:(bL s).2.1=(u:Int):=by rw[h1]
  rw[e2,e1];have:=aD5 hN s n hb n u 0 N [] (by omega) (by omega) (by omega) rfl (by omega);rw[show(((0:Nat):Int))=0 from rfl]at this;rw[this,π,π]
  try rfl
 ·have hne:(bL s).2.2≠0:=by omega
  rw[mH hne,aN,if_pos hne]
  try rfl
def rz:Rd:=(0,(0,(0,(0,(0,0)))))
theorem bB4(h:(grd s).2≠0):grd s=(rz,11):=by
 rcases bNg s with g|g
 ·exact absurd g h
 ·exact g
theorem yD(h:∀x∈l,I64 x)(hl:l.length<=1000000):aH (cS l)=(l,((cS l).length:Int),0):=by have:=qD h hl [];rwa[χ]at this
theorem bJ1{x y:Str}(h:x=y):(!(x==y))=false:=by subst h;simp
theorem bCf{x y:Str}(h:x≠y):(!(x==y))=true:=by simp[h]
theorem aQi(s:Str)(hN:20<=N)(hs:s.length<N)(hb:s.length<=1000000):fX N s=some (grd s):=by
 unfold fX;rw[aCk s hN hs hb,aB];unfold swp;dsimp only;rcases nI s with⟨e,u,h1,h2,h3,h4⟩|g
 ·rw[jZ e,aL,aD,aB];by_cases hl:(aH s).1.length=7
  ·have h7:=bGw hl;have hI:=h4;generalize(aH s).1.getD 0 0=a0 at h7;generalize(aH s).1.getD 1 0=a1 at h7;generalize(aH s).1.getD 2 0=a2 at h7;generalize(aH s).1.getD 3 0=a3 at h7;generalize(aH s).1.getD 4 0=a4 at h7;generalize(aH s).1.getD 5 0=a5 at h7;generalize(aH s).1.getD 6 0=a6 at h7;rw[h7]at hI|-;have ok:okR (a1,(a2,(a3,(a4,(a5,a6))))):=fun x hx=>by
    rcases bw.1 hx with rfl|hx
    ·exact aT3.2
    ·exact hI x (bw.2 (.inr hx))
   show bd? (gU N (a1,(a2,(a3,(a4,(a5,a6)))))) (fun v10=>if? (!(v10==s)) (some (rz,11)) (some ((a1,(a2,(a3,(a4,(a5,a6))))),0)))=_;rw[bBh hN ok,aB];by_cases he:aR2 (a1,(a2,(a3,(a4,(a5,a6)))))=s
   ·rw[bJ1 he,aL,<-he,bD9 ok]
   ·rw[bCf he,aN,bB4];intro h0;obtain⟨g1,g2⟩:=aMa h0;have e2:=yD (l:=rl (grd s).1) g2 (by show 7<=_;omega);have e3:aH s=aH (cS (rl (grd s).1)):=congrArg aH g1;rw[e2]at e3;have e4:(aH s).1=rl (grd s).1:=by rw[e3]
    rw[h7]at e4;apply he;rw[g1];unfold aR2;refine congrArg cS ?_;show 1::_=1::_;exact congrArg (fun t=>1::t) (congrArg List.tail e4)
  ·rw[mH (show((aH s).1.length:Int)≠7 by omega),aN,bB4]
   ·rfl
   ·intro h0;obtain⟨g1,g2⟩:=aMa h0;have e2:=yD (l:=rl (grd s).1) g2 (by show 7<=_;omega);have e3:aH s=aH (cS (rl (grd s).1)):=congrArg aH g1;rw[e2]at e3;apply hl;rw[e3];rfl
 ·rw[mH g,aN,aD,aB,bB4]
  ·rfl
  ·intro h0;obtain⟨g1,g2⟩:=aMa h0;have e2:=yD (l:=rl (grd s).1) g2 (by show 7<=_;omega);have e3:aH s=aH (cS (rl (grd s).1)):=congrArg aH g1;rw[e2]at e3;apply g;rw[e3]
theorem aTd{β:Type}{xs:List α}{x:α}{f:α->Option β}(h:xs[i]?=some x):gd? (0<=(i:Int)) (gd? ((i:Int)<((xs.length:Nat):Int)) (gn? xs (i:Int).toNat f))=f x:=by have hl:=(List.getElem?_eq_some_iff.1 h).1;rw[aC (by omega),aC (by omega),π,aQ0 h]
def pp:List Str->List Pt->Option (List Pt)
 |a::b::c::d::r,acc=>if(gi a).2.2=0 then pp r (acc++[((gi a).1,(b==uvI 1,(c,d)))])else none
 |_,acc=>some acc
def fl2(v:Vr×Int):Int×(Int×(Int×(Int×(Int×(Int×(Int×(Int×List Pt))))))):=(v.1.1,(v.1.2.1,(v.1.2.2.1,(v.1.2.2.2.1,(v.1.2.2.2.2.1,(v.1.2.2.2.2.2.1,(v.1.2.2.2.2.2.2.1,(v.2,v.1.2.2.2.2.2.2.2))))))))
def bH2(s:Str)(x1 x2 x3 x4 x5 x6 x7:Int):Option (List Pt)->Vr×Int
 |none=>(vz,11)
 |some q=>if vV (x1,(x2,(x3,(x4,(x5,(x6,(x7,q)))))))=s then((x1,(x2,(x3,(x4,(x5,(x6,(x7,q))))))),0)else(vz,11)
theorem bK8:uvI 0=[0]:=uvarint_small (x:=0) (by decide)
theorem bG6:uvI 1=[2]:=uvarint_small (x:=2) (by decide)
theorem bL8(b:Bool):(uvI (sgb b)==uvI 1)=b:=by
 cases b with
 |false=>show(uvI 0==uvI 1)=false;rw[bK8,bG6];rfl
 |true=>show(uvI 1==uvI 1)=true;rw[bG6];rfl
theorem aS7:∀(l acc:List Pt),okP l->pp (l.flatMap prt) acc=some (acc++l)
 |[],acc,_=>by rw[χ];rfl
 |p::l,acc,h=>by have hp:=(h p (by simp)).1;have e:=aNz hp [];rw[χ]at e;rw[cf];show pp (uvI p.1::uvI (sgb p.2.1)::p.2.2.1::p.2.2.2::l.flatMap prt) acc=_;rw[pp,e,if_pos rfl,bL8,aS7 l _ (fun q hq=>h q (by simp[hq])),υ];rfl
theorem bFn(N m:Nat):dF N (m+1)=eP N (dF N m):=rfl
theorem aPk{N:Nat}(hN:20<=N)(s:Str)(x1 x2 x3 x4 x5 x6 x7:Int)(hI:∀x∈[2,x1,x2,x3,x4,x5,x6,x7],I64 x)(L:List Str)(hLN:L.length<N)(hL:L.length<=4000)(hp:∀x∈L,x.length<=50000):∀(k j m:Nat) (acc:List Pt),L.length=4*(j+k)->k<m->acc.length=j->okP acc->
  dF N m s ((4*j:Nat):Int) 0 0 0 0 0 0 0 0 0 0 0 0 0 0 0 11 L x1 x2 x3 x4 x5 x6 x7 [] [] acc=some (fl2 (bH2 s x1 x2 x3 x4 x5 x6 x7 (pp (L.drop (4*j)) acc)))
 |k,j,0,_,_,h,_,_=>by omega
 |0,j,m+1,acc,hj,_,ha,hok=>by
  rw[bFn];unfold eP;rw[aE (decide_eq_false (by omega)),aD,cm (by omega)];have ok:okV (x1,(x2,(x3,(x4,(x5,(x6,(x7,acc))))))):=⟨hI,by show acc.length<=_;omega,hok⟩;rw[bBx hN ok (by show 4*acc.length<N;omega),aB];show _=some (fl2 (if vV (x1,(x2,(x3,(x4,(x5,(x6,(x7,acc)))))))=s then((x1,(x2,(x3,(x4,(x5,(x6,(x7,acc))))))),0)else(vz,11)));by_cases he:vV (x1,(x2,(x3,(x4,(x5,(x6,(x7,acc)))))))=s
  ·rw[bJ1 he,aL,aD,if_pos he];rfl
  ·rw[bCf he,aN,aD,if_neg he];rfl
 |k+1,j,m+1,acc,hj,hm,ha,hok=>by
  have l0:4*j<L.length:=by omega
  have l1:4*j+1<L.length:=by omega
  have l2:4*j+2<L.length:=by omega
  have l3:4*j+3<L.length:=by omega
  have ed:L.drop (4*j)=L[4*j]::L[4*j+1]::L[4*j+2]::L[4*j+3]::L.drop (4*(j+1)):=by rw[gb l0,gb l1,gb l2,gb l3];rfl
  have hc:=hp _ (da l2);have hd:=hp _ (da l3);rw[bFn];unfold eP;rw[ed,pp,aF (decide_eq_true (by omega)),aTd (ε l0),aFo hN,aB];rcases yZ L[4*j]with⟨e,u,h1,h2,h3,h4,h5⟩|⟨h1,h2,h3⟩
  ·rw[jZ e,aL,if_pos e,aM (by omega) (by omega),show((4*j:Nat):Int)+1=((4*j+1:Nat):Int) by omega,aTd (ε l1),xW hN aT3.2,aB,aM (by omega) (by omega),show((4*j:Nat):Int)+2=((4*j+2:Nat):Int) by omega,aTd (ε l2),aM (by omega) (by omega),show((4*j:Nat):Int)+3=((4*j+3:Nat):Int) by omega,aTd (ε l3),aD,aC (by simp only[ξ,au];omega),aM (by omega) (by omega),show((4*j:Nat):Int)+4=((4*(j+1):Nat):Int) by omega,aD,aD,aD,aD];refine aPk hN s x1 x2 x3 x4 x5 x6 x7 hI L hLN hL hp k (j+1) m _ (by omega) (by omega) (by simp only[κ,ξ,au];omega) fun p hp=>?_;rcases dn.1 hp with hp|hp
   ·exact hok p hp
   ·rw[bk.1 hp];exact⟨h5,hc,hd⟩
  ·have hne:(gi L[4*j]).2.2≠0:=by omega
   rw[mH hne,aN,if_neg hne,aD];rfl
theorem bF2:∀(k:Nat) (L:List Str) (acc q:List Pt),L.length=4*k->okP acc->(∀x∈L,x.length<=50000)->pp L acc=some q->okP q/\q.length=acc.length+k
 |0,L,acc,q,hl,ha,_,h=>by
  have:L=[]:=fw.1 (by omega);subst this;cases h;exact⟨ha,rfl⟩
 |k+1,L,acc,q,hl,ha,hp,h=>by
  obtain⟨a,b,c,d,r,rfl⟩:∃a b c d r,L=a::b::c::d::r:=by
   match L,hl with
   |a::b::c::d::r,_=>exact⟨a,b,c,d,r,rfl⟩
   |[],h=>simp at h
   |[_],h=>simp at h;omega
   |[_,_],h=>simp at h;omega
   |[_,_,_],h=>simp at h;omega
  rw[pp]at h;rcases yZ a with⟨e,u,h1,h2,h3,h4,h5⟩|⟨h1,h2,h3⟩
  ·rw[if_pos e]at h;have:=bF2 k r _ q (by simp only[ξ]at hl;omega) (fun p hq=>by
    rcases dn.1 hq with hq|hq
    ·exact ha p hq
    ·rw[bk.1 hq];exact⟨h5,hp c (by simp),hp d (by simp)⟩) (fun x hx=>hp x (by simp[hx])) h
   refine⟨this.1,?_⟩;rw[this.2];simp only[κ,ξ,au];omega
  ·rw[if_neg (by omega)]at h;cases h
theorem bM3(h:(gvr s).2≠0):gvr s=(vz,11):=by
 rcases bMn s with g|g
 ·exact absurd g h
 ·exact g
theorem gV(ok:okV v):aH (vV v)=(vl v,((cS (vl v)).length:Int),0)/\(dH ((vV v).drop (cS (vl v)).length)).1=(vp v).flatMap prt/\(dH ((vV v).drop (cS (vl v)).length)).2.2=0:=by obtain⟨h1,h2,h3⟩:=ok;have hs:=aSd h3;have e:=aC4 (l:=(vp v).flatMap prt) (fun x hx=>by have:=hs x hx;omega) (by rw[oI];omega) [];rw[χ]at e;refine⟨qD h1 (by show 8<=_;omega) _,?_⟩;unfold vV;rw[mV,e];exact⟨rfl,rfl⟩
theorem aQc(s:Str)(hN:20<=N)(hs:s.length<N)(hb:s.length<=4000):gF N s=some (fl2 (gvr s)):=by
 have neg:∀P:Prop,(∀v,okV v->s=vV v->gvr s=(v,0)->¬P)->P->gvr s=(vz,11):=fun P h hP=>bM3 fun h0=>by obtain⟨g1,g2⟩:=bDr hb h0;exact h _ g2 g1 (by rw[<-h0]) hP
 unfold gF;rw[aCk s hN hs (by omega),aB];unfold swp;dsimp only;rcases nI s with⟨e,u,h1,h2,h3,h4⟩|g
 ·rw[jZ e,aL,aD,aB];dsimp only;by_cases hl:(aH s).1.length=8
  ·rw[jZ (show((aH s).1.length:Int)=8 by omega),aL,h1,aC (by omega),π,aC h2,aC (ω _),aIw,aEm _ hN (by rw[aq];omega) (by rw[aq];omega),aB];unfold swp;dsimp only;rcases aA9 (s.drop u)with⟨e',u',g1,g2,g3,g4⟩|g
   ·rw[aq]at g3;rw[jZ e',aL,aD,aD,aD,aD,aB];dsimp only;have e4:bo ((dH (s.drop u)).1.length:Int) 4=(((dH (s.drop u)).1.length%4:Nat):Int):=by rw[show(4:Int)=((4:Nat):Int)from rfl,<-fm]
    have hV:∀v,okV v->s=vV v->aH s=(vl v,(u:Int),0)/\(dH (s.drop u)).1=(vp v).flatMap prt:=fun v ok hv=>by
     obtain⟨i1,i2,i3⟩:=gV ok;rw[<-hv]at i1 i2;have hu:u=(cS (vl v)).length:=by rw[i1]at h1;exact(Int.ofNat.inj h1).symm
     rw[<-hu]at i1 i2;exact⟨i1,i2⟩
    by_cases h4':(dH (s.drop u)).1.length%4=0
    ·rw[e4,h4',jZ (show((0:Nat):Int)=0 from rfl),aL];have h8:=bHe hl;have hI:=h4;have h0:(aH s).1.getD 0 0=(aH s).1.getD 0 0:=rfl;generalize hG:(dH (s.drop u)).1=L at*;rw[h8]at hI|-;have hVL:∀v,okV v->s=vV v->(aH s).1=vl v:=fun v ok hv=>by rw[(hV v ok hv).1]
     rw[h8]at hVL;generalize(aH s).1.getD 0 0=a0 at*;generalize(aH s).1.getD 1 0=a1 at*;generalize(aH s).1.getD 2 0=a2 at*;generalize(aH s).1.getD 3 0=a3 at*;generalize(aH s).1.getD 4 0=a4 at*;generalize(aH s).1.getD 5 0=a5 at*;generalize(aH s).1.getD 6 0=a6 at*;generalize(aH s).1.getD 7 0=a7 at*;show gl? L.length L (dF N N s ((4*0:Nat):Int) 0 0 0 0 0 0 0 0 0 0 0 0 0 0 0 11 L a1 a2 a3 a4 a5 a6 a7 [] [] [])=_;rw[aD];have hI':∀x∈[2,a1,a2,a3,a4,a5,a6,a7],I64 x:=fun x hx=>by
      rcases bw.1 hx with rfl|hx
      ·exact⟨by decide,by decide⟩
      ·exact hI x (bw.2 (.inr hx))
     have hp:∀x∈L,x.length<=50000:=fun x hx=>by have:=g4 x hx;rw[aq]at this;omega
     rw[aPk hN s a1 a2 a3 a4 a5 a6 a7 hI' L (by omega) (by omega) hp (L.length/4) 0 N [] (by omega) (by omega) rfl (fun p hp=>(dm hp).elim)];show some (fl2 (bH2 s a1 a2 a3 a4 a5 a6 a7 (pp L [])))=_;refine congrArg (fun x=>some (fl2 x)) ?_;cases hq:pp L []with
     |none=>
      refine(neg True (fun v ok hv _ _=>?_) trivial).symm;have:=(hV v ok hv).2;rw[this,aS7 _ _ ok.2.2]at hq;cases hq
     |some q=>
      obtain⟨q1,q2⟩:=bF2 (L.length/4) L [] q (by omega) (fun p hp=>(dm hp).elim) hp hq;have ok:okV (a1,(a2,(a3,(a4,(a5,(a6,(a7,q))))))):=⟨hI',by show q.length<=_;rw[q2,au];omega,q1⟩;unfold bH2;dsimp only;by_cases he:vV (a1,(a2,(a3,(a4,(a5,(a6,(a7,q)))))))=s
      ·rw[if_pos he,<-he,bE0 ok]
      ·rw[if_neg he];refine(neg True (fun v okv hv _ _=>he ?_) trivial).symm;have e1:=hVL v okv hv;have e2:=(hV v okv hv).2;rw[e2,aS7 _ _ okv.2.2,cg]at hq;have e3:=Option.some.inj hq;rw[hv];have e5:vl (a1,(a2,(a3,(a4,(a5,(a6,(a7,q)))))))=vl v:=by show 2::_=2::_;exact congrArg (fun t=>2::t) (congrArg List.tail e1)
       unfold vV;rw[e5,<-e3]
    ·rw[e4,mH (show((((dH (s.drop u)).1.length%4:Nat):Int)≠0) by omega),aN,aD,neg ((dH (s.drop u)).1.length%4≠0) (fun v ok hv _ h=>h (by rw[(hV v ok hv).2,oI];omega)) h4'];rfl
   ·rw[mH g,aN,aD,aD,aD,aD,aB];dsimp only;rw[aN,aD,neg ((dH (s.drop u)).2.2≠0) (fun v ok hv _ h=>h (by
     obtain⟨i1,i2,i3⟩:=gV ok;rw[<-hv]at i1 i3;have hu:u=(cS (vl v)).length:=by rw[i1]at h1;exact(Int.ofNat.inj h1).symm
     rw[hu];exact i3)) g]
    rfl
  ·rw[mH (show((aH s).1.length:Int)≠8 by omega),aN,aD,neg ((aH s).1.length≠8) (fun v ok hv _ h=>h (by rw[hv,(gV ok).1];rfl)) hl];rfl
 ·rw[mH g,aN,aD,aB];dsimp only;rw[aN,aD,neg ((aH s).2.2≠0) (fun v ok hv _ h=>h (by rw[hv,(gV ok).1])) g];rfl
theorem bGs(N:Nat)(r)(m:Nat):nQ N r (m+1)=mK N r (nQ N r m):=rfl
theorem bG3(N m:Nat):nE N (m+1)=nC N (nE N m):=rfl
theorem bFl(N:Nat)(r)(m:Nat):lE N r (m+1)=lG N r (lE N r m):=rfl
theorem bG8(N m:Nat):lF N (m+1)=kZ N (lF N m):=rfl
theorem tk(t:List Hl)(j:Nat)(h:j<t.length)(P:List Int):P++[t[j].1,t[j].2]++(t.drop (j+1)).flatMap hlI=P++(t.drop j).flatMap hlI:=by rw[gS h,cf,υ];rfl
theorem kb1{N:Nat}(hN:5000<=N)(r)(rs rs':List Rn)(n i:Nat)(t:List Hl)(f1 f2 f3 f4 f5:Int)(acc:List Str)(ht:t.length<=1000)(hacc:acc.length<=1000)(hi:i<=1000):∀(k j m:Nat) (P:List Int),j+k=t.length->k<m->P.length<=4+2*j->(∀x∈P++(t.drop j).flatMap hlI,I64 x)->
  nQ N r m rs (n:Int) (i:Int) t ((t.length:Nat):Int) (j:Int) f1 f2 f3 f4 f5 rs' acc P=r rs (n:Int) ((i+1:Nat):Int) f1 f2 f3 f4 f5 rs' (acc++[cS (P++(t.drop j).flatMap hlI)])
 |k,j,0,P,_,h,_,_=>by omega
 |0,j,m+1,P,hj,_,hP,hI=>by
  rw[bGs];unfold mK;rw[cm (by omega)]at hI|-;rw[List.flatMap_nil,χ]at hI|-;rw[aE (decide_eq_false (by omega)),aD,aGu (by omega) P hI (by omega) (by omega),aB,aD,aC (by simp only[ξ,au];omega),aM (by omega) (by omega),aD,show((i:Int)+1)=((i+1:Nat):Int) by omega]
 |k+1,j,m+1,P,hj,hm,hP,hI=>by
  have hlt:j<t.length:=by omega
  rw[bGs];unfold mK;rw[aF (decide_eq_true (by omega)),bJ (ε hlt),aD,aC (by simp only[ξ,au];omega),aM (by omega) (by omega),aD,aD,show((j:Int)+1)=((j+1:Nat):Int) by omega,kb1 hN r rs rs' n i t f1 f2 f3 f4 f5 acc ht hacc hi k (j+1) m _ (by omega) (by omega) (by simp only[κ,ξ,au];omega) (by rw[tk _ _ hlt];exact hI),tk _ _ hlt]
theorem rb1{N:Nat}(hN:5000<=N)(r)(rs':List Rn)(i:Nat)(t:List Hl)(f1 f2 f3 f4 f5 y1 y2 y3 y4:Int)(acc:List Str)(ht:t.length<=1000)(hacc:acc.length<=1000)(hi:i<=1000):∀(k j m:Nat) (P:List Int),j+k=t.length->k<m->P.length<=4+2*j->(∀x∈P++(t.drop j).flatMap hlI,I64 x)->
  lE N r m (i:Int) (j:Int) f1 f2 f3 f4 f5 rs' acc y1 y2 t y3 y4 P=r ((i+1:Nat):Int) f1 f2 f3 f4 f5 rs' (acc++[cS (P++(t.drop j).flatMap hlI)])
 |k,j,0,P,_,h,_,_=>by omega
 |0,j,m+1,P,hj,_,hP,hI=>by
  rw[bFl];unfold lG;rw[cm (by omega)]at hI|-;rw[List.flatMap_nil,χ]at hI|-;rw[aE (decide_eq_false (by omega)),aD,aBs (by omega) P hI (by omega) (by omega),aB,aD,aC (by simp only[ξ,au];omega),aM (by omega) (by omega),aD,show((i:Int)+1)=((i+1:Nat):Int) by omega]
 |k+1,j,m+1,P,hj,hm,hP,hI=>by
  have hlt:j<t.length:=by omega
  rw[bFl];unfold lG;rw[aF (decide_eq_true (by omega)),bJ (ε hlt),bJ (ε hlt),aD,aC (by simp only[ξ,au];omega),aM (by omega) (by omega),aD,aD,show((j:Int)+1)=((j+1:Nat):Int) by omega,rb1 hN r rs' i t f1 f2 f3 f4 f5 y1 y2 y3 y4 acc ht hacc hi k (j+1) m _ (by omega) (by omega) (by simp only[κ,ξ,au];omega) (by rw[tk _ _ hlt];exact hI),tk _ _ hlt]
theorem aTw(h:okK b):(∀x∈(brs b).map fun r=>cS (rnI r),x.length<=50000)/\(cS (bl b)).length+(sQ ((brs b).map fun r=>cS (rnI r))).length<=9223372036854775807:=by
 obtain⟨h1,h2,h3⟩:=h;have hp:∀x∈(brs b).map fun r=>cS (rnI r),x.length<=50000:=fun x hx=>by obtain⟨r,hr,rfl⟩:=c7.1 hx;have:=aFq (h3 r hr).2 (by rw[kV];have:=(h3 r hr).1;omega);rw[kV]at this;have:=(h3 r hr).1;omega
 refine⟨hp,?_⟩;have a1:=aFq h1 (by show 6<=_;omega);have a2:=aVn (by omega) hp (by rw[μ];omega);have h9:(bl b).length=6:=rfl;rw[μ]at a2;have a3:(50000+10)*(brs b).length<=50010*1000:=Nat.mul_le_mul_left _ h2;omega
theorem kb0{N:Nat}(hN:5000<=N)(b:Bk)(hb:okK b):∀(k i m:Nat),i+k=(brs b).length->k<m->
  nE N m (brs b) (((brs b).length:Nat):Int) (i:Int) b.1 b.2.1 b.2.2.1 b.2.2.2.1 b.2.2.2.2.1 (brs b) (((brs b).take i).map fun r=>cS (rnI r))=some (tW b)
 |k,i,0,_,h=>by omega
 |0,i,m+1,hi,_=>by
  obtain⟨e1,e2⟩:=aTw hb;obtain⟨h1,h2,h3⟩:=hb;rw[bG3];unfold nC;rw[aE (decide_eq_false (by omega)),bc (by omega)];show bd? (dY N (bl b)) _=_;rw[aGu (by omega) _ h1 (by show 6<N;omega) (by show 6<=_;omega),aB,aD,aSi (by omega) _ (fun x hx=>by have:=e1 x hx;omega) (by rw[μ];omega) (by rw[μ];omega),aB,aD,cQ];exact aC e2
 |k+1,i,m+1,hi,hm=>by
  have hlt:i<(brs b).length:=by omega
  have hb':=hb;obtain⟨h1,h2,h3⟩:=hb';obtain⟨g1,g2⟩:=h3 _ (da hlt);have ih:=kb0 hN b hb k (i+1) m (by omega) (by omega);rw[aDf _ _ hlt,bn]at ih;rw[bG3];unfold nC;rw[aF (decide_eq_true (by omega)),bJ (ε hlt),aD];refine(kb1 hN _ (brs b) (brs b) _ i _ _ _ _ _ _ _ g1 (by rw[μ,bu];omega) (by omega) (brs b)[i].2.2.1.length 0 N _ (by omega) (by omega) (ω _) g2).trans ih
theorem bLk(hN:5000<=N)(h:okK b):aBi N b=some (tW b):=by unfold aBi;exact kb0 hN b h (brs b).length 0 N (by omega) (by have:=h.2.1;omega)
theorem rb0{N:Nat}(hN:5000<=N)(b:Bk)(hb:okK b):∀(k i m:Nat),i+k=(brs b).length->k<m->
  lF N m (i:Int) b.1 b.2.1 b.2.2.1 b.2.2.2.1 b.2.2.2.2.1 (brs b) (((brs b).take i).map fun r=>cS (rnI r))=some (tW b)
 |k,i,0,_,h=>by omega
 |0,i,m+1,hi,_=>by
  obtain⟨e1,e2⟩:=aTw hb;obtain⟨h1,h2,h3⟩:=hb;rw[bG8];unfold kZ;rw[aE (decide_eq_false (by omega)),bc (by omega)];show bd? (cE N (bl b)) _=_;rw[aBs (by omega) _ h1 (by show 6<N;omega) (by show 6<=_;omega),aB,aD,aPz (by omega) _ (fun x hx=>by have:=e1 x hx;omega) (by rw[μ];omega) (by rw[μ];omega),aB,aD,cQ];exact aC e2
 |k+1,i,m+1,hi,hm=>by
  have hlt:i<(brs b).length:=by omega
  have hb':=hb;obtain⟨h1,h2,h3⟩:=hb';obtain⟨g1,g2⟩:=h3 _ (da hlt);have ih:=rb0 hN b hb k (i+1) m (by omega) (by omega);rw[aDf _ _ hlt,bn]at ih;rw[bG8];unfold kZ;rw[aF (decide_eq_true (by omega)),bJ (ε hlt),aD];refine(rb1 hN _ (brs b) i _ _ _ _ _ _ _ _ _ _ _ g1 (by rw[μ,bu];omega) (by omega) (brs b)[i].2.2.1.length 0 N _ (by omega) (by omega) (ω _) g2).trans ih
theorem bJd(hN:5000<=N)(h:okK b):oF N b=some (tW b):=by unfold oF;exact rb0 hN b h (brs b).length 0 N (by omega) (by have:=h.2.1;omega)
theorem aEh{j:Int}{f:Int->Option α}(hj:j=(k:Int))(h:k<l.length):gd? (j<((l.length:Nat):Int)) (gn? l k f)=f (l.getD k 0):=by rw[aC (by omega),aQ0 (ε h),ba,ε h];rfl
def flk(x:Bk×Int):Int×(Int×(Int×(Int×(Int×(List Rn×Int))))):=(x.1.1,(x.1.2.1,(x.1.2.2.1,(x.1.2.2.2.1,(x.1.2.2.2.2.1,(x.1.2.2.2.2.2,x.2))))))
def bt(l:List Int):Option (List Rn)->Bk×Int
 |none=>(bkz,11)
 |some r=>(bkD l r,0)
theorem bGz(r)(m:Nat):iE r (m+1)=iG r (iE r m):=rfl
theorem bFr(N m:Nat):iL N (m+1)=iU N (iL N m):=rfl
theorem gk1(r)(v:List Int)(ls:List Str)(n:Int)(i:Nat)(z1 z2 z3 z4 z5 z6 x y z w:Int)(acc e:List Rn)(hacc:acc.length<=1000000)(hi:i<=1000000):∀(k m:Nat) (l:List Int) (t:List Hl),l.length=2*k->k<m->t.length+k<=1000000->
  iE r m v l ls n (i:Int) z1 z2 z3 z4 z5 z6 acc x y z w e t=r v ls n ((i+1:Nat):Int) z1 z2 z3 z4 z5 z6 (acc++[(x,(y,(tbl l t,(z,w))))]) e
 |k,0,l,t,_,h,_=>by omega
 |0,m+1,l,t,hl,_,_=>by
  have:l=[]:=fw.1 (by omega);subst this;rw[bGz];unfold iG;rw[aE (by rfl),aD,aD,aC (by simp only[ξ,au];omega),aM (by omega) (by omega),aD,aD,show((i:Int)+1)=((i+1:Nat):Int) by omega];rfl
 |k+1,m+1,l,t,hl,hm,ht=>by
  obtain⟨a,b,q,rfl⟩:∃a b q,l=a::b::q:=by
   match l,hl with
   |a::b::q,_=>exact⟨a,b,q,rfl⟩
   |[],h=>simp at h
   |[_],h=>simp at h;omega
  have hq:q.length=2*k:=by simp only[ξ]at hl;omega
  rw[bGz];unfold iG;rw[aF (decide_eq_true (by simp only[ξ];omega)),wM (x:=a) (by decide) rfl,wM (x:=b) (by decide) rfl,aD,aC (by simp only[ξ,au];omega),aC (by simp only[ξ];omega),aC (ω _),aD,aD,aD];have e2:cw ((a::b::q).length-2) (c9 2 (a::b::q))=q:=by show q.take (q.length+2-2)=q;rw[kj,List.take_length]
  rw[e2,gk1 r v ls n i z1 z2 z3 z4 z5 z6 x y z w acc e hacc hi k m q _ hq (by omega) (by simp only[κ,ξ,au];omega),tbl]
theorem gk0{N:Nat}(hN:20<=N)(v:List Int)(hv:v.length=6)(L:List Str)(hL:L.length<=1000000)(hp:∀x∈L,x.length<N/\x.length<=1000000):∀(k i m:Nat) (acc:List Rn),i+k=L.length->k<m->acc.length=i->
  iL N m v L ((L.length:Nat):Int) (i:Int) 0 0 0 0 0 0 acc []=some (flk (bt v (aIs (L.drop i) acc)))
 |k,i,0,acc,_,h,_=>by omega
 |0,i,m+1,acc,hi,_,_=>by
  rw[bFr];unfold iU;rw[aE (decide_eq_false (by omega)),cm (by omega),show(1:Int)=((1:Nat):Int)from rfl,nT (d:=0) (by omega),show(2:Int)=((2:Nat):Int)from rfl,nT (d:=0) (by omega),show(3:Int)=((3:Nat):Int)from rfl,nT (d:=0) (by omega),show(4:Int)=((4:Nat):Int)from rfl,nT (d:=0) (by omega),show(5:Int)=((5:Nat):Int)from rfl,nT (d:=0) (by omega),aQr,aB,aD];rfl
 |k+1,i,m+1,acc,hi,hm,ha=>by
  have hlt:i<L.length:=by omega
  obtain⟨p1,p2⟩:=hp _ (da hlt);rw[bFr];unfold iU;rw[aF (decide_eq_true (by omega)),bJ (ε hlt),aIc _ (by omega) p1 p2,aB,gS hlt,aIs];unfold swp;dsimp only;generalize hg:L[i]=p at*;by_cases e:(aH p).2.2=0
  ·rw[kF e,aN];by_cases hu:(aH p).2.1=(p.length:Int)
   ·rw[kF hu,aN];by_cases h4:4<=(aH p).1.length
    ·rw[aF (decide_eq_true (by omega))];have e4:bo ((aH p).1.length:Int) 2=(((aH p).1.length%2:Nat):Int):=by rw[show(2:Int)=((2:Nat):Int)from rfl,<-fm]
     by_cases h2:(aH p).1.length%2=0
     ·rw[if_pos ⟨e,hu,h4,h2⟩,vZ N (kF (by rw[e4];omega)),aB,rV,aD,aD,aD,aEz];dsimp only;have hl:(aH p).1.length<=p.length:=by
       rcases nI p with⟨_,u,_,_,h3,_⟩|g
       ·exact h3
       ·exact absurd e g
      rw[aEh (k:=0) (j:=0) rfl (by omega),aEh (k:=1) (j:=1) rfl (by omega),aEh (k:=2) (j:=2) rfl (by omega),aEh (k:=3) (j:=3) rfl (by omega),aC h4,aC (ω _),aD,aC (by omega),aD];have et:cw ((aH p).1.length-4) (c9 4 (aH p).1)=(aH p).1.drop 4:=bc (by rw[aq];exact ω _);rw[et,gk1 _ v L _ i 0 0 0 0 0 0 _ _ _ _ acc [] (by omega) (by omega) (((aH p).1.length-4)/2) N _ [] (by rw[aq];omega) (by omega) (by rw[au];omega)];exact gk0 hN v hv L hL hp k (i+1) m _ (by omega) (by omega) (by simp only[κ,ξ,au];omega)
     ·rw[if_neg (fun q=>h2 q.2.2.2),mM N (fA (by rw[e4];omega)),aB,oW,nB,aB,aD,pO,yL];rfl
    ·rw[aE (decide_eq_false (by omega)),if_neg (fun q=>h4 q.2.2.1),mM N rfl,aB,oW,nB,aB,aD,pO,yL];rfl
   ·rw[fA hu,aL,if_neg (fun q=>hu q.2.1),mM N rfl,aB,oW,nB,aB,aD,pO,yL];rfl
  ·rw[fA e,aL,if_neg (fun q=>e q.1),mM N rfl,aB,oW,nB,aB,aD,pO,yL];rfl
theorem aPn(s:Str)(hN:20<=N)(hs:s.length<N)(hb:s.length<=1000000):gM N s=some (flk (gbl s)):=by
 unfold gM gbl;rw[show(6:Int)=((6:Nat):Int)from rfl,aOh s 3 6 true (by omega) hs hb (by omega),aB];cases hh:hd s 3 6 true with
 |none=>
  unfold oS;rw[oW,nB,aB];rfl
 |some v=>
  obtain⟨g1,g2,g3,g4⟩:=aLo hh;unfold oS;rw[rV];have:=gk0 hN v.1 g1 v.2 (by omega) (fun x hx=>by have:=g4 x hx;omega) v.2.length 0 N [] (by omega) (by omega) rfl;refine this.trans (congrArg (fun x=>some (flk x)) ?_);rw[cc];dsimp only;cases aIs v.2 []<;>rfl
def rr:List Str->List Rn->Option (List Rn)
 |[],acc=>some acc
 |p::r,acc=>if(aH p).2.2=0/\4<=(aH p).1.length/\(aH p).1.length%2=0 then rr r (acc++[rnD (aH p).1])else none
def aX0(x:Bk×Int):Int×(Int×(Int×(Int×(Int×(Int×List Rn))))):=(x.1.1,(x.1.2.1,(x.1.2.2.1,(x.1.2.2.2.1,(x.1.2.2.2.2.1,(x.2,x.1.2.2.2.2.2))))))
def bKy(s:Str)(x1 x2 x3 x4 x5:Int):Option (List Rn)->Bk×Int
 |none=>(bkz,11)
 |some q=>if tW (x1,(x2,(x3,(x4,(x5,q)))))=s then((x1,(x2,(x3,(x4,(x5,q))))),0)else(bkz,11)
def bEp(l:List Rn):Prop:=∀r∈l,r.2.2.1.length<=1000/\∀x∈rnI r,I64 x
theorem aY5{p:Str}(hp:p.length<=1000)(e:(aH p).2.2=0)(h4:4<=(aH p).1.length)(h2:(aH p).1.length%2=0):(rnD (aH p).1).2.2.1.length<=1000/\∀x∈rnI (rnD (aH p).1),I64 x:=by
 have l1:=kV (rnD (aH p).1);rw[aVz h4 h2]at l1|-;rcases nI p with⟨_,u,_,_,h3,h5⟩|g
 ·exact⟨by omega,h5⟩
 ·exact absurd e g
theorem bFz:∀(L:List Str) (acc q:List Rn),bEp acc->(∀x∈L,x.length<=1000)->rr L acc=some q->bEp q/\q.length=acc.length+L.length
 |[],acc,q,ha,_,h=>by cases h;exact⟨ha,rfl⟩
 |p::r,acc,q,ha,hp,h=>by
  rw[rr]at h;split at h
  ·rename_i hh;have:=bFz r _ q (fun x hx=>by
    rcases dn.1 hx with hx|hx
    ·exact ha x hx
    ·rw[bk.1 hx];exact aY5 (hp p (by simp)) hh.1 hh.2.1 hh.2.2) (fun x hx=>hp x (by simp[hx])) h
   refine⟨this.1,?_⟩;rw[this.2];simp only[κ,ξ,au];omega
  ·cases h
theorem aSm:∀(l acc:List Rn),bEp l->rr (l.map fun r=>cS (rnI r)) acc=some (acc++l)
 |[],acc,_=>by rw[χ];rfl
 |r::l,acc,h=>by obtain⟨h1,h2⟩:=h r (by simp);rw[cx,rr,yD h2 (by rw[kV];omega),if_pos ⟨rfl,by rw[kV];omega,by rw[kV];omega⟩,bGg,aSm l _ (fun q hq=>h q (by simp[hq])),υ];rfl
theorem bA1(r)(m:Nat):fW r (m+1)=fV r (fW r m):=rfl
theorem bAc(N m:Nat):eC N (m+1)=gG N (eC N m):=rfl
theorem bLf(r)(s:Str)(L:List Str)(i:Nat)(f1 f2 f3 f4 f5 x y z w:Int)(l:List Int)(acc:List Rn)(hacc:acc.length<=1000000)(hi:i<=1000000)(hl:l.length<=1000000):∀(k j m:Nat) (t:List Hl),l.length=j+2*k->k<m->t.length+k<=1000000->
  fW r m s (i:Int) (j:Int) 0 0 0 0 0 0 0 0 0 0 0 11 L f1 f2 f3 f4 f5 l x y z w [] [] acc t=r s ((i+1:Nat):Int) 0 0 0 0 0 0 0 0 0 0 0 11 L f1 f2 f3 f4 f5 [] [] (acc++[(x,(y,(tbl (l.drop j) t,(z,w))))])
 |k,j,0,t,_,h,_=>by omega
 |0,j,m+1,t,hj,_,_=>by
  rw[bA1];unfold fV;rw[aE (decide_eq_false (by omega)),aD,aD,aC (by simp only[ξ,au];omega),aM (by omega) (by omega),aD,aD,aD,aD,show((i:Int)+1)=((i+1:Nat):Int) by omega,cm (by omega)];rfl
 |k+1,j,m+1,t,hj,hm,ht=>by
  have l0:j<l.length:=by omega
  have l1:j+1<l.length:=by omega
  rw[bA1];unfold fV;rw[aF (decide_eq_true (by omega)),aTd (ε l0),aM (by omega) (by omega),show((j:Int)+1)=((j+1:Nat):Int) by omega,aTd (ε l1),aD,aC (by simp only[ξ,au];omega),aM (by omega) (by omega),aD,aD,aD,aD,aD,aD,show((j:Int)+2)=((j+2:Nat):Int) by omega,bLf r s L i f1 f2 f3 f4 f5 x y z w l acc hacc hi hl k (j+2) m _ (by omega) (by omega) (by simp only[κ,ξ,au];omega),gS l0,gS l1,tbl]
theorem bK4{N:Nat}(hN:5000<=N)(s:Str)(x1 x2 x3 x4 x5:Int)(hI:∀x∈[3,x1,x2,x3,x4,x5],I64 x)(L:List Str)(hL:L.length<=1000)(hp:∀x∈L,x.length<=1000):∀(k i m:Nat) (acc:List Rn),i+k=L.length->k<m->acc.length=i->bEp acc->
  eC N m s (i:Int) 0 0 0 0 0 0 0 0 0 0 0 11 L x1 x2 x3 x4 x5 [] [] acc=some (aX0 (bKy s x1 x2 x3 x4 x5 (rr (L.drop i) acc)))
 |k,i,0,acc,_,h,_,_=>by omega
 |0,i,m+1,acc,hi,_,ha,hok=>by
  rw[bAc];unfold gG;rw[aE (decide_eq_false (by omega)),aD,cm (by omega)];have ok:okK (x1,(x2,(x3,(x4,(x5,acc))))):=⟨hI,by show acc.length<=_;omega,hok⟩;rw[bJd hN ok,aB];show _=some (aX0 (if tW (x1,(x2,(x3,(x4,(x5,acc)))))=s then((x1,(x2,(x3,(x4,(x5,acc))))),0)else(bkz,11)));by_cases he:tW (x1,(x2,(x3,(x4,(x5,acc)))))=s
  ·rw[bJ1 he,aL,aD,if_pos he];rfl
  ·rw[bCf he,aN,aD,if_neg he];rfl
 |k+1,i,m+1,acc,hi,hm,ha,hok=>by
  have hlt:i<L.length:=by omega
  have p2:=hp _ (da hlt);rw[bAc];unfold gG;rw[aF (decide_eq_true (by omega)),aTd (ε hlt),aCk _ (by omega) (by omega) (by omega),aB,gS hlt,rr];unfold swp;dsimp only;generalize hg:L[i]=p at*;by_cases e:(aH p).2.2=0
  ·have hl:(aH p).1.length<=p.length:=by
    rcases nI p with⟨_,u,_,_,h3,_⟩|g
    ·exact h3
    ·exact absurd e g
   rw[jZ e,aL];by_cases h4:4<=(aH p).1.length
   ·rw[aE (decide_eq_false (by omega)),aD,aD,aD,aD,aD,aB];dsimp only;have e4:bo ((aH p).1.length:Int) 2=(((aH p).1.length%2:Nat):Int):=by rw[show(2:Int)=((2:Nat):Int)from rfl,<-fm]
    by_cases h2:(aH p).1.length%2=0
    ·rw[if_pos ⟨e,h4,h2⟩,jZ (show bo ((aH p).1.length:Int) 2=0 by rw[e4];omega),aL];rw[aEh (k:=0) (j:=0) rfl (by omega),aEh (k:=1) (j:=1) rfl (by omega),aEh (k:=2) (j:=2) rfl (by omega),aEh (k:=3) (j:=3) rfl (by omega),aD,aD,aD,aD,aD];rw[show(4:Int)=((4:Nat):Int)from rfl,bLf _ s L i x1 x2 x3 x4 x5 _ _ _ _ _ acc (by omega) (by omega) (by omega) (((aH p).1.length-4)/2) 4 N [] (by omega) (by omega) (by rw[au];omega)];refine bK4 hN s x1 x2 x3 x4 x5 hI L hL hp k (i+1) m _ (by omega) (by omega) (by simp only[κ,ξ,au];omega) fun x hx=>?_;rcases dn.1 hx with hx|hx
     ·exact hok x hx
     ·rw[bk.1 hx];exact aY5 p2 e h4 h2
    ·rw[if_neg (fun q=>h2 q.2.2),mH (show bo ((aH p).1.length:Int) 2≠0 by rw[e4];omega),aN,aD];rfl
   ·rw[aF (decide_eq_true (by omega)),aD,aD,aD,aD,aD,aB];dsimp only;rw[aN,aD,if_neg (fun q=>h4 q.2.1)];rfl
  ·rw[mH e,aN,aD,aD,aD,aD,aD,aB];dsimp only;rw[aN,aD,if_neg (fun q=>e q.1)];rfl
theorem bK9(h:(gbl s).2≠0):gbl s=(bkz,11):=by
 rcases bNi s with g|g
 ·exact absurd g h
 ·exact g
theorem gK(ok:okK b):aH (tW b)=(bl b,((cS (bl b)).length:Int),0)/\(dH ((tW b).drop (cS (bl b)).length)).1=(brs b).map (fun r=>cS (rnI r))/\(dH ((tW b).drop (cS (bl b)).length)).2.2=0:=by have hs:=(aTw ok).1;obtain⟨h1,h2,h3⟩:=ok;have e:=aC4 (l:=(brs b).map fun r=>cS (rnI r)) (fun x hx=>by have:=hs x hx;omega) (by rw[μ];omega) [];rw[χ]at e;refine⟨qD h1 (by show 6<=_;omega) _,?_⟩;unfold tW;rw[mV,e];exact⟨rfl,rfl⟩
theorem aW0(s:Str)(hN:5000<=N)(hb:s.length<=1000):jP N s=some (aX0 (gbl s)):=by
 have neg:∀P:Prop,(∀v,okK v->s=tW v->gbl s=(v,0)->¬P)->P->gbl s=(bkz,11):=fun P h hP=>bK9 fun h0=>by obtain⟨g1,g2⟩:=bEy hb h0;exact h _ g2 g1 (by rw[<-h0]) hP
 unfold jP;rw[aCk s (by omega) (by omega) (by omega),aB];unfold swp;dsimp only;rcases nI s with⟨e,u,h1,h2,h3,h4⟩|g
 ·rw[jZ e,aL,aD,aB];dsimp only;by_cases hl:(aH s).1.length=6
  ·rw[jZ (show((aH s).1.length:Int)=6 by omega),aL,h1,aC (by omega),π,aC h2,aC (ω _),aIw,aEm _ (by omega) (by rw[aq];omega) (by rw[aq];omega),aB];unfold swp;dsimp only;rcases aA9 (s.drop u)with⟨e',u',g1,g2,g3,g4⟩|g
   ·rw[aq]at g3;rw[jZ e',aL];have hV:∀v,okK v->s=tW v->aH s=(bl v,(u:Int),0)/\(dH (s.drop u)).1=(brs v).map (fun r=>cS (rnI r)):=fun v ok hv=>by
     obtain⟨i1,i2,i3⟩:=gK ok;rw[<-hv]at i1 i2;have hu:u=(cS (bl v)).length:=by rw[i1]at h1;exact(Int.ofNat.inj h1).symm
     rw[<-hu]at i1 i2;exact⟨i1,i2⟩
    have h8:=bFy hl;have hI:=h4;generalize hG:(dH (s.drop u)).1=L at*;rw[h8]at hI|-;have hVL:∀v,okK v->s=tW v->(aH s).1=bl v:=fun v ok hv=>by rw[(hV v ok hv).1]
    rw[h8]at hVL;generalize(aH s).1.getD 0 0=a0 at*;generalize(aH s).1.getD 1 0=a1 at*;generalize(aH s).1.getD 2 0=a2 at*;generalize(aH s).1.getD 3 0=a3 at*;generalize(aH s).1.getD 4 0=a4 at*;generalize(aH s).1.getD 5 0=a5 at*;show gl? L.length L (eC N N s ((0:Nat):Int) 0 0 0 0 0 0 0 0 0 0 0 11 L a1 a2 a3 a4 a5 [] [] [])=_;rw[aD];have hI':∀x∈[3,a1,a2,a3,a4,a5],I64 x:=fun x hx=>by
     rcases bw.1 hx with rfl|hx
     ·exact⟨by decide,by decide⟩
     ·exact hI x (bw.2 (.inr hx))
    have hp:∀x∈L,x.length<=1000:=fun x hx=>by have:=g4 x hx;rw[aq]at this;omega
    rw[bK4 hN s a1 a2 a3 a4 a5 hI' L (by omega) hp L.length 0 N [] (by omega) (by omega) rfl (fun p hp=>(dm hp).elim),cc];refine congrArg (fun x=>some (aX0 x)) ?_;cases hq:rr L []with
    |none=>
     refine(neg True (fun v ok hv _ _=>?_) trivial).symm;have:=(hV v ok hv).2;rw[this,aSm _ _ ok.2.2]at hq;cases hq
    |some q=>
     obtain⟨q1,q2⟩:=bFz L [] q (fun p hp=>(dm hp).elim) hp hq;have ok:okK (a1,(a2,(a3,(a4,(a5,q))))):=⟨hI',by show q.length<=_;rw[q2,au];omega,q1⟩;unfold bKy;dsimp only;by_cases he:tW (a1,(a2,(a3,(a4,(a5,q)))))=s
     ·rw[if_pos he,<-he,bDd ok]
     ·rw[if_neg he];refine(neg True (fun v okv hv _ _=>he ?_) trivial).symm;have e1:=hVL v okv hv;have e2:=(hV v okv hv).2;rw[e2,aSm _ _ okv.2.2,cg]at hq;have e3:=Option.some.inj hq;rw[hv];have e5:bl (a1,(a2,(a3,(a4,(a5,q)))))=bl v:=by show 3::_=3::_;exact congrArg (fun t=>3::t) (congrArg List.tail e1)
      unfold tW;rw[e5,<-e3]
   ·rw[mH g,aN,aD,neg ((dH (s.drop u)).2.2≠0) (fun v ok hv _ h=>h (by
     obtain⟨i1,i2,i3⟩:=gK ok;rw[<-hv]at i1 i3;have hu:u=(cS (bl v)).length:=by rw[i1]at h1;exact(Int.ofNat.inj h1).symm
     rw[hu];exact i3)) g]
    rfl
  ·rw[mH (show((aH s).1.length:Int)≠6 by omega),aN,aD,neg ((aH s).1.length≠6) (fun v ok hv _ h=>h (by rw[hv,(gK ok).1];rfl)) hl];rfl
 ·rw[mH g,aN,aD,aB];dsimp only;rw[aN,aD,neg ((aH s).2.2≠0) (fun v ok hv _ h=>h (by rw[hv,(gK ok).1])) g];rfl
def lp(y:Int):Bool:=decide (bo y 400=0\/(bo y 4=0/\bo y 100≠0))
def dy(b:Bool):Int:=if b then 366 else 365
theorem aYm(N:Nat)(y:Int):gQ N y=some (lp y):=by
 unfold gQ lp;by_cases h4:bo y 4=0
 ·rw[kF h4,aN];by_cases h1:bo y 100=0
  ·rw[jZ h1,aL,aB];refine congrArg some ?_;rw[ef,beq_iff_eq,decide_eq_true_eq];omega
  ·rw[mH h1,aN,aB,decide_eq_true (.inr ⟨h4,h1⟩)]
 ·rw[fA h4,aL,aB];refine congrArg some ?_;rw[ef,beq_iff_eq,decide_eq_true_eq];omega
theorem aZ2(N:Nat)(y:Int):mT N y=some (lp y):=by
 unfold mT lp;by_cases h0:bo y 400=0
 ·rw[kF h0,aN,decide_eq_true (.inl h0)]
 ·rw[fA h0,aL];by_cases h4:bo y 4=0
  ·rw[kF h4,aN,aB];refine congrArg some ?_;rw[ef,bne_iff_ne,decide_eq_true_eq];omega
  ·rw[fA h4,aL,aB,decide_eq_false (by omega)]
theorem bH9(N:Nat)(y:Int):gJ N y=some (dy (lp y)):=by unfold gJ;rw[aYm,aB];cases lp y<;>rfl
theorem bI1(N:Nat)(y:Int):mN N y=some (dy (lp y)):=by unfold mN;rw[aZ2,aB];cases lp y<;>rfl
def ml(b:Bool):Nat->Int
 |2=>if b then 29 else 28
 |4=>30
 |6=>30
 |9=>30
 |11=>30
 |_=>31
theorem bL9(N:Nat)(y:Int)(m:Nat)(h1:1<=m)(h2:m<=12):eT N y (m:Int)=some (ml (lp y) m):=by unfold eT;rw[aYm];rcases(by omega:m=1\/m=2\/m=3\/m=4\/m=5\/m=6\/m=7\/m=8\/m=9\/m=10\/m=11\/m=12)with h|h|h|h|h|h|h|h|h|h|h|h<;>subst h<;>cases lp y<;>rfl
theorem bKo(N:Nat)(y:Int)(m:Nat)(h1:1<=m)(h2:m<=12):jA N y (m:Int)=some (ml (lp y) m):=by unfold jA;rw[aZ2];rcases(by omega:m=1\/m=2\/m=3\/m=4\/m=5\/m=6\/m=7\/m=8\/m=9\/m=10\/m=11\/m=12)with h|h|h|h|h|h|h|h|h|h|h|h<;>subst h<;>cases lp y<;>rfl
def R(b:Bool):Nat->Int
 |0=>0
 |k+1=>ml b (12-k)+R b k
theorem bK3(b:Bool):R b 12=dy b:=by cases b<;>rfl
theorem aX1(b:Bool)(m:Nat):28<=ml b m/\ml b m<=31:=by unfold ml;split<;>(try split)<;>omega
theorem bOo(N m:Nat):iR N (m+1)=mS N (iR N m):=rfl
theorem bNy(N m:Nat):iQ N (m+1)=nS N (iQ N m):=rfl
theorem bNz(N m:Nat):mR N (m+1)=rH N (mR N m):=rfl
theorem bNw(N m:Nat):nD N (m+1)=qI N (nD N m):=rfl
theorem bGl(N:Nat)(y:Int):∀(k m f:Nat) (d:Int),m+k=13->1<=m->0<=d->d<1000->d<R (lp y) k->k<f->∃r,iR N f d y (m:Int)=some (y,r)
 |k,m,0,d,_,_,_,_,_,h=>by omega
 |0,m,f+1,d,_,_,h0,_,h,_=>by have:d<0:=h;omega
 |k+1,m,f+1,d,hm,h1,h0,hd,h,hf=>by
  have hp:=aX1 (lp y) m;rw[bOo];unfold mS;rw[bL9 N y m h1 (by omega),aB];by_cases hh:d≥ml (lp y) m
  ·rw[aF (decide_eq_true hh),aB,aM (by omega) (by omega),aM (by omega) (by omega),show((m:Int)+1)=((m+1:Nat):Int) by omega];have e:R (lp y) (k+1)=ml (lp y) m+R (lp y) k:=by show ml (lp y) (12-k)+_=_;rw[show 12-k=m by omega]
   exact bGl N y k (m+1) f _ (by omega) (by omega) (by omega) (by omega) (by omega) (by omega)
  ·rw[aE (decide_eq_false hh),aM (by omega) (by omega)];exact⟨_,rfl⟩
theorem bG9(N:Nat)(y:Int):∀(k m f:Nat) (d:Int),m+k=13->1<=m->0<=d->d<1000->d<R (lp y) k->k<f->∃r,mR N f d 0 0 0 0 y (m:Int) 0 0=some (y,r)
 |k,m,0,d,_,_,_,_,_,h=>by omega
 |0,m,f+1,d,_,_,h0,_,h,_=>by have:d<0:=h;omega
 |k+1,m,f+1,d,hm,h1,h0,hd,h,hf=>by
  have hp:=aX1 (lp y) m;rw[bNz];unfold rH;rw[bKo N y m h1 (by omega),aB];by_cases hh:d≥ml (lp y) m
  ·rw[aF (decide_eq_true hh),aB,aM (by omega) (by omega),aM (by omega) (by omega),show((m:Int)+1)=((m+1:Nat):Int) by omega];have e:R (lp y) (k+1)=ml (lp y) m+R (lp y) k:=by show ml (lp y) (12-k)+_=_;rw[show 12-k=m by omega]
   exact bG9 N y k (m+1) f _ (by omega) (by omega) (by omega) (by omega) (by omega) (by omega)
  ·rw[aE (decide_eq_false hh),aM (by omega) (by omega)];exact⟨_,rfl⟩
def yr:Nat->Int->Int->Int
 |0,y,_=>y
 |n+1,y,d=>if d≥dy (lp y)then yr n (y+1) (d-dy (lp y))else y
theorem bNl(b:Bool):365<=dy b/\dy b<=366:=by cases b<;>decide
theorem bMd{N:Nat}(hN:20<=N):∀(n f:Nat) (y d:Int),0<=y->y+n<=1000000->0<=d->d<365*n->n<f->n<=10000->∃r,iQ N f d y 1=some (yr n y d,r)
 |n,0,y,d,_,_,_,_,h,_=>by omega
 |0,f+1,y,d,_,_,h0,h,_,_=>by omega
 |n+1,f+1,y,d,hy,hyn,h0,h,hf,hn=>by
  obtain⟨b1,b2⟩:=bNl (lp y);rw[bNy,yr];unfold nS;rw[bH9,aB];by_cases hh:d≥dy (lp y)
  ·rw[aF (decide_eq_true hh),aB,aM (by omega) (by omega),aM (by omega) (by omega),if_pos hh];exact bMd hN n f _ _ (by omega) (by omega) (by omega) (by omega) (by omega) (by omega)
  ·rw[aE (decide_eq_false hh),if_neg hh];exact bGl N y 12 1 N d rfl (by omega) h0 (by omega) (by rw[bK3];omega) (by omega)
theorem bL6{N:Nat}(hN:20<=N):∀(n f:Nat) (y d:Int),0<=y->y+n<=1000000->0<=d->d<365*n->n<f->n<=10000->∃r,nD N f d 0 0 0 0 y 1 0 0=some (yr n y d,r)
 |n,0,y,d,_,_,_,_,h,_=>by omega
 |0,f+1,y,d,_,_,h0,h,_,_=>by omega
 |n+1,f+1,y,d,hy,hyn,h0,h,hf,hn=>by
  obtain⟨b1,b2⟩:=bNl (lp y);rw[bNw,yr];unfold qI;rw[bI1,aB];by_cases hh:d≥dy (lp y)
  ·rw[aF (decide_eq_true hh),aB,aM (by omega) (by omega),aM (by omega) (by omega),if_pos hh];exact bL6 hN n f _ _ (by omega) (by omega) (by omega) (by omega) (by omega) (by omega)
  ·rw[aE (decide_eq_false hh),if_neg hh];exact bG9 N y 12 1 N d rfl (by omega) h0 (by omega) (by rw[bK3];omega) (by omega)
def cy(d:Int):Int:=if d<0\/d>14609 then 0 else yr 41 2000 d
theorem bIa(hN:100<=N)(d:Int):∃r,dM N d=some (cy d,r):=by
 unfold dM cy;by_cases h:d<0
 ·rw[aF (decide_eq_true h),aB,if_pos (.inl h)];exact⟨_,rfl⟩
 ·rw[aE (decide_eq_false h),aB];by_cases h':d>14609
  ·rw[aF (decide_eq_true h'),if_pos (.inr h')];exact⟨_,rfl⟩
  ·rw[aE (decide_eq_false h'),if_neg (by omega)];exact bMd (by omega) 41 N 2000 d (by omega) (by omega) (by omega) (by omega) (by omega) (by omega)
theorem bHg(hN:100<=N)(d:Int):∃r,pV N d=some (cy d,r):=by
 unfold pV cy;by_cases h:d<0
 ·rw[aF (decide_eq_true h),aB,if_pos (.inl h)];exact⟨_,rfl⟩
 ·rw[aE (decide_eq_false h),aB];by_cases h':d>14609
  ·rw[aF (decide_eq_true h'),if_pos (.inr h')];exact⟨_,rfl⟩
  ·rw[aE (decide_eq_false h'),if_neg (by omega)];exact bL6 (by omega) 41 N 2000 d (by omega) (by omega) (by omega) (by omega) (by omega) (by omega)
def pl(g t:Int):Int×TN:=if g<0\/g≥40\/t<0\/t≥1402560 then(0,(0,3))else(g,(cy (dk t 96),0))
def wh(s:Str):Int×TN:=
 if(grd s).2=0 then pl (grd s).1.1 (grd s).1.2.2.1
 else if(gvr s).2=0 then pl (gvr s).1.2.1 (gvr s).1.2.2.2.2.1
 else if(gbl s).2=0 then pl (gbl s).1.1 (gbl s).1.2.2.1
 else(0,(0,11))
theorem bA4(hN:100<=N)(g t:Int){γ:Type}(K:Int×TN->Option γ):
  (bd? (if? (decide (g<0)) (some (g,t,true)) (if? (decide (g≥40)) (some (g,t,true)) (if? (decide (t<0)) (some (g,t,true)) (some (g,t,decide (t≥1402560)))))) fun w7=>if? (w7.2.2) (K (0,(0,3))) (ck .i64 (dk w7.2.1 96) (bd? (dM N (dk w7.2.1 96)) fun v8=>K (w7.1,(v8.1,0)))))=K (pl g t):=by
 unfold pl;by_cases h1:g<0
 ·rw[aF (decide_eq_true h1),aB,if_pos (.inl h1)];rfl
 ·rw[aE (decide_eq_false h1)];by_cases h2:g≥40
  ·rw[aF (decide_eq_true h2),aB,if_pos (.inr (.inl h2))];rfl
  ·rw[aE (decide_eq_false h2)];by_cases h3:t<0
   ·rw[aF (decide_eq_true h3),aB,if_pos (.inr (.inr (.inl h3)))];rfl
   ·rw[aE (decide_eq_false h3),aB];dsimp only;by_cases h4:t≥1402560
    ·rw[aF (decide_eq_true h4),if_pos (.inr (.inr (.inr h4)))]
    ·have hd:0<=dk t 96/\dk t 96<=t:=by obtain⟨n,rfl⟩:=Int.eq_ofNat_of_zero_le (show 0<=t by omega);rw[show(96:Int)=((96:Nat):Int)from rfl,<-jz];omega
     obtain⟨r,hr⟩:=bIa hN (dk t 96);rw[aE (decide_eq_false h4),if_neg (by omega),aM (by omega) (by omega),hr,aB]
theorem aNu(hN:100<=N)(g t:Int):iA N g t=some (pl g t):=by
 unfold iA pl;by_cases h1:g<0
 ·rw[aF (decide_eq_true h1),aB,if_pos (.inl h1)];rfl
 ·rw[aE (decide_eq_false h1)];by_cases h2:g>39
  ·rw[aF (decide_eq_true h2),aB,if_pos (.inr (.inl (by omega)))];rfl
  ·rw[aE (decide_eq_false h2)];by_cases h3:t<0
   ·rw[aF (decide_eq_true h3),aB,if_pos (.inr (.inr (.inl h3)))];rfl
   ·rw[aE (decide_eq_false h3),aB];dsimp only;by_cases h4:t≥1402560
    ·rw[aF (decide_eq_true h4),if_pos (.inr (.inr (.inr h4)))]
    ·have hd:0<=dk t 96/\dk t 96<=t:=by obtain⟨n,rfl⟩:=Int.eq_ofNat_of_zero_le (show 0<=t by omega);rw[show(96:Int)=((96:Nat):Int)from rfl,<-jz];omega
     obtain⟨r,hr⟩:=bHg hN (dk t 96);rw[aE (decide_eq_false h4),if_neg (by omega),aM (by omega) (by omega),hr,aB]
theorem bE7(N m:Nat):eA N (m+1)=iZ N (eA N m):=rfl
theorem k_1(s:Str)(hN:5000<=N)(hb:s.length<=1000):nK N s=some ((grd s).1.1,((grd s).1.2.2.1,(grd s).2)):=by unfold nK;rw[aKb s (by omega) (by omega) (by omega),aB]
theorem k_2(s:Str)(hN:5000<=N)(hb:s.length<=1000):mD N s=some ((gvr s).1.2.1,((gvr s).1.2.2.2.2.1,(gvr s).2)):=by unfold mD;rw[aJ3 s (by omega) (by omega) (by omega),aB];rfl
theorem k_3(s:Str)(hN:5000<=N)(hb:s.length<=1000):mI N s=some ((gbl s).1.1,((gbl s).1.2.2.1,(gbl s).2)):=by unfold mI;rw[aPn s (by omega) (by omega) (by omega),aB];rfl
theorem aZ9(s:Str)(hN:5000<=N)(hb:s.length<=1000):jO N s=some (wh s):=by
 obtain⟨m,rfl⟩:∃m,N=m+4:=⟨N-4,by omega⟩;generalize hM:m+4=M at*;unfold jO uX;rw[aB];have e3:eA M (m+1) s 3=some (0,(0,11)):=by rw[bE7];rfl
 have e2:eA M (m+2) s 2=some (if(gbl s).2=0 then pl (gbl s).1.1 (gbl s).1.2.2.1 else(0,(0,11))):=by
  rw[bE7];unfold iZ;rw[aF (by rfl),aE (by rfl),aE (by rfl),aF (by rfl),k_3 s hN hb,aB];dsimp only;by_cases h:(gbl s).2=0
  ·rw[jZ h,aL,if_pos h,bA4 (by omega) _ _ (fun x=>lJ (some x)),pO,yL]
  ·rw[mH h,aN,if_neg h,aEz];exact(aM (n:=2+1) (by decide) (by decide)).trans e3
 have e1:eA M (m+3) s 1=some (if(gvr s).2=0 then pl (gvr s).1.2.1 (gvr s).1.2.2.2.2.1 else if(gbl s).2=0 then pl (gbl s).1.1 (gbl s).1.2.2.1 else(0,(0,11))):=by
  rw[bE7];unfold iZ;rw[aF (by rfl),aE (by rfl),aF (by rfl),k_2 s hN hb,aB];dsimp only;by_cases h:(gvr s).2=0
  ·rw[jZ h,aL,if_pos h,bA4 (by omega) _ _ (fun x=>lJ (some x)),pO,yL]
  ·rw[mH h,aN,if_neg h,aEz];exact(aM (n:=1+1) (by decide) (by decide)).trans e2
 have e0:eA M (m+4) s 0=some (wh s):=by
  rw[bE7];unfold iZ;rw[aF (by rfl),aF (by rfl),k_1 s hN hb,aB];unfold wh;dsimp only;by_cases h:(grd s).2=0
  ·rw[jZ h,aL,if_pos h,bA4 (by omega) _ _ (fun x=>lJ (some x)),pO,yL]
  ·rw[mH h,aN,if_neg h,aEz];exact(aM (n:=0+1) (by decide) (by decide)).trans e1
 rw[hM]at e0;exact e0
theorem bIi(s:Str)(hN:5000<=N)(hb:s.length<=1000):oD N s=some (wh s):=by
 unfold oD wh;rw[aQi s (by omega) (by omega) (by omega),aB];by_cases h:(grd s).2=0
 ·rw[kF h,aN,aNu (by omega),aB,if_pos h]
 ·rw[fA h,aL,if_neg h,aQc s (by omega) (by omega) (by omega),aB];unfold fl2;dsimp only;by_cases h:(gvr s).2=0
  ·rw[kF h,aN,aNu (by omega),aB,if_pos h]
  ·rw[fA h,aL,if_neg h,aW0 s (by omega) (by omega),aB];unfold aX0;dsimp only;by_cases h:(gbl s).2=0
   ·rw[kF h,aN,aNu (by omega),aB,if_pos h]
   ·rw[fA h,aL,if_neg h]
end Go.Proofs.Tryz
set_option maxRecDepth 8000
namespace Go.Proofs.Tryz
open Go.Eng Go.RowKit
theorem bBn:fO 17179869200=some true:=by kernel_rfl
end Go.Proofs.Tryz
set_option maxRecDepth 8000
namespace Go.Proofs.Tryz
open Go.Eng Go.RowKit Go.Lib
variable{N:Nat}
theorem aNe{n:Int}(h:IntKind.min .i64<=n/\n<=IntKind.max .i64):I64 n:=by
 have e1:IntKind.min .i64=-9223372036854775808:=by decide
 have e2:IntKind.max .i64=9223372036854775807:=by decide
 rw[e1,e2]at h;exact h
set_option maxRecDepth 8000
set_option synthInstance.maxSize 100000
set_option synthInstance.maxHeartbeats 400000
abbrev Fo:=Int×(Int×List Str)
def hr(s:Str)(g y:Int):Bool:=decide ((wh s).2.2=0/\(wh s).1=g/\(wh s).2.1=y)
theorem bGx(a b c g y:Int):(bd? (if? (c==0) (if? (a==g) (some (b==y)) (some false)) (some false)) fun w5=>some w5)=some (decide (c=0/\a=g/\b=y)):=by
 by_cases h1:c=0
 ·rw[kF h1,aN];by_cases h2:a=g
  ·rw[kF h2,aN,aB];refine congrArg some ?_;rw[ef,beq_iff_eq,decide_eq_true_eq];exact⟨fun h=>⟨h1,h2,h⟩,fun h=>h.2.2⟩
  ·rw[fA h2,aL,aB,decide_eq_false (fun q=>h2 q.2.1)]
 ·rw[fA h1,aL,aB,decide_eq_false (fun q=>h1 q.1)]
theorem yH(s:Str)(g y:Int)(hN:5000<=N)(hb:s.length<=1000):fT N s g y=some (hr s g y):=by unfold fT hr;rw[aZ9 s hN hb,aB,bGx]
theorem aQp(s:Str)(g y:Int)(hN:5000<=N)(hb:s.length<=1000):lN N s g y=some (hr s g y):=by unfold lN hr;rw[bIi s hN hb,aB,bGx]
def bad(g y:Int):Option Str->Str->Bool
 |none,x=>!hr x g y
 |some q,x=>!hr x g y||(Op.bytesLess x q||x==q)
def ckl(g y:Int):Option Str->List Str->Int
 |_,[]=>0
 |p,x::r=>if bad g y p x then 1 else ckl g y (some x) r
def pv(l:List Str):Nat->Option Str
 |0=>none
 |i+1=>l[i]?
def chk(f:Fo):Int:=if f.1<0\/f.1≥40\/f.2.1<2000\/f.2.1≥2040 then 3 else if f.2.2.length>1000 then 2 else ckl f.1 f.2.1 none f.2.2
theorem bNp(N m:Nat):fJ N (m+1)=nH N (fJ N m):=rfl
theorem bKz(N m:Nat):eI N (m+1)=kS N (eI N m):=rfl
theorem aVc{N:Nat}(hN:5000<=N)(l:List Str)(g y:Int)(hp:∀x∈l,x.length<=1000)(hl:l.length<=1000):∀(k i m:Nat),i+k=l.length->k<m->fJ N m l ((l.length:Nat):Int) (i:Int) g y l=some (ckl g y (pv l i) (l.drop i))
 |k,i,0,_,h=>by omega
 |0,i,m+1,hi,_=>by
  rw[bNp];unfold nH;rw[aE (decide_eq_false (by omega)),cm (by omega)];rfl
 |k+1,i,m+1,hi,hm=>by
  have hlt:i<l.length:=by omega
  have hb:=hp _ (da hlt);have ih:=aVc hN l g y hp hl k (i+1) m (by omega) (by omega);have ev:pv l (i+1)=some l[i]:=ε hlt;rw[ev]at ih;rw[bNp];unfold nH;rw[aF (decide_eq_true (by omega)),bJ (ε hlt),gS hlt,ckl];have fin:∀b:Bool,(bd? (some (l,((l.length:Nat):Int),(i:Int),b,g,y,l)) fun w14=>if? (w14.2.2.2.1) (some 1) (ck .i64 ((w14.2.2.1+1)) (fJ N m w14.1 w14.2.1 (w14.2.2.1+1) w14.2.2.2.2.1 w14.2.2.2.2.2.1 w14.2.2.2.2.2.2)))=some (if b then 1 else ckl g y (some l[i]) (l.drop (i+1))):=fun b=>by
   rw[aB];dsimp only;cases b with
   |true=>rw[aN];rfl
   |false=>
    rw[aL,aM (by omega) (by omega),show((i:Int)+1)=((i+1:Nat):Int) by omega,ih];rfl
  cases i with
  |zero=>
   rw[aE (decide_eq_false (by omega)),yH _ g y hN hb,aB];exact fin _
  |succ j=>
   have hj:j<l.length:=by omega
   have ev:pv l (j+1)=some l[j]:=ε hj;rw[aF (decide_eq_true (by omega)),aM (by omega) (by omega),show(((j+1:Nat):Int)-1)=(j:Int) by omega,bJ (ε hj),ev,bad];cases hx:(Op.bytesLess l[j+1] l[j]||l[j+1]==l[j])with
   |true=>rw[aN,Bool.or_true];exact fin true
   |false=>rw[aL,yH _ g y hN hb,aB,Bool.or_false];exact fin _
theorem aU9{N:Nat}(hN:5000<=N)(l:List Str)(g y:Int)(hp:∀x∈l,x.length<=1000)(hl:l.length<=1000):∀(k i m:Nat),i+k=l.length->k<m->eI N m (i:Int) g y l=some (ckl g y (pv l i) (l.drop i))
 |k,i,0,_,h=>by omega
 |0,i,m+1,hi,_=>by
  rw[bKz];unfold kS;rw[aE (decide_eq_false (by omega)),cm (by omega)];rfl
 |k+1,i,m+1,hi,hm=>by
  have hlt:i<l.length:=by omega
  have hb:=hp _ (da hlt);have ih:=aU9 hN l g y hp hl k (i+1) m (by omega) (by omega);have ev:pv l (i+1)=some l[i]:=ε hlt;rw[ev]at ih;rw[bKz];unfold kS;rw[aF (decide_eq_true (by omega)),bJ (ε hlt),gS hlt,ckl,aQp _ g y hN hb,aB];have fin:∀b:Bool,(bd? (some ((i:Int),b,g,y,l)) fun w12=>if? (w12.2.1) (some 1) (ck .i64 ((w12.1+1)) (eI N m (w12.1+1) w12.2.2.1 w12.2.2.2.1 w12.2.2.2.2)))=some (if b then 1 else ckl g y (some l[i]) (l.drop (i+1))):=fun b=>by
   rw[aB];dsimp only;cases b with
   |true=>rw[aN];rfl
   |false=>
    rw[aL,aM (by omega) (by omega),show((i:Int)+1)=((i+1:Nat):Int) by omega,ih];rfl
  cases i with
  |zero=>
   cases hx:hr l[0] g y with
   |true=>
    rw[c8,aL,aE (decide_eq_false (by omega))];show _=some (if(!hr l[0] g y)then 1 else _);rw[hx];exact fin false
   |false=>
    rw[fy,aN];show _=some (if(!hr l[0] g y)then 1 else _);rw[hx];exact fin true
  |succ j=>
   have hj:j<l.length:=by omega
   have ev:pv l (j+1)=some l[j]:=ε hj;rw[ev,bad];cases hx:hr l[j+1] g y with
   |true=>
    rw[c8,aL,aF (decide_eq_true (by omega)),bJ (ε hlt),aM (by omega) (by omega),show(((j+1:Nat):Int)-1)=(j:Int) by omega,bJ (ε hj),Bool.false_or];exact fin _
   |false=>
    rw[fy,aN,Bool.true_or];exact fin true
theorem aBj(hN:5000<=N)(f:Fo)(hp:∀x∈f.2.2,x.length<=1000):bQ N f=some (chk f):=by
 unfold bQ chk;have fin:¬(f.1<0\/f.1≥40\/f.2.1<2000\/f.2.1≥2040)->(if? (decide (((f.2.2.length:Nat):Int)>1000)) (some (2:Int)) (fJ N N f.2.2 ((f.2.2.length:Nat):Int) 0 f.1 f.2.1 f.2.2))=some (if f.2.2.length>1000 then 2 else ckl f.1 f.2.1 none f.2.2):=fun _=>by
  by_cases h:f.2.2.length>1000
  ·rw[aF (decide_eq_true (by omega)),if_pos h]
  ·rw[aE (decide_eq_false (by omega)),if_neg h];have:=aVc hN f.2.2 f.1 f.2.1 hp (by omega) f.2.2.length 0 N (by omega) (by omega);rw[cc]at this;exact this
 by_cases h1:f.1<0
 ·rw[aF (decide_eq_true h1),aB,if_pos (.inl h1)];rfl
 ·rw[aE (decide_eq_false h1)];by_cases h2:f.1≥40
  ·rw[aF (decide_eq_true h2),aB,if_pos (.inr (.inl h2))];rfl
  ·rw[aE (decide_eq_false h2)];by_cases h3:f.2.1<2000
   ·rw[aF (decide_eq_true h3),aB,if_pos (.inr (.inr (.inl h3)))];rfl
   ·rw[aE (decide_eq_false h3),aB];dsimp only;by_cases h4:f.2.1≥2040
    ·rw[aF (decide_eq_true h4),if_pos (.inr (.inr (.inr h4)))]
    ·rw[aE (decide_eq_false h4),if_neg (by omega)];exact fin (by omega)
theorem aNx(hN:5000<=N)(f:Fo)(hp:∀x∈f.2.2,x.length<=1000):cI N f=some (chk f):=by
 unfold cI chk;have fin:(if? (decide (((f.2.2.length:Nat):Int)>1000)) (some (2:Int)) (eI N N 0 f.1 f.2.1 f.2.2))=some (if f.2.2.length>1000 then 2 else ckl f.1 f.2.1 none f.2.2):=by
  by_cases h:f.2.2.length>1000
  ·rw[aF (decide_eq_true (by omega)),if_pos h]
  ·rw[aE (decide_eq_false (by omega)),if_neg h];have:=aU9 hN f.2.2 f.1 f.2.1 hp (by omega) f.2.2.length 0 N (by omega) (by omega);rw[cc]at this;exact this
 by_cases h1:f.1<0
 ·rw[aF (decide_eq_true h1),aB,if_pos (.inl h1)];rfl
 ·rw[aE (decide_eq_false h1)];by_cases h2:f.1>39
  ·rw[aF (decide_eq_true h2),aB,if_pos (.inr (.inl (by omega)))];rfl
  ·rw[aE (decide_eq_false h2)];by_cases h3:f.2.1<2000
   ·rw[aF (decide_eq_true h3),aB,if_pos (.inr (.inr (.inl h3)))];rfl
   ·rw[aE (decide_eq_false h3),aB];dsimp only;by_cases h4:f.2.1>2039
    ·rw[aF (decide_eq_true h4),if_pos (.inr (.inr (.inr (by omega))))]
    ·rw[aE (decide_eq_false h4),if_neg (by omega)];exact fin
end Go.Proofs.Tryz

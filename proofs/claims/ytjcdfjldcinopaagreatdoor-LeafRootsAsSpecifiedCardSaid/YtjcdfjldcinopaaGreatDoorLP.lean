/- Texts of this claim. -/
import Derived.Test.YtjcdfjldcinopaaGreatDoorLA
import Derived.Test.YtjcdfjldcinopaaGreatDoorYB
import Derived.Lib.Varint
import Derived.Lib.BitFns
import Derived.Laws.Bits64
open BitVec renaming ofInt_natCast->ka,toNat_ofNat->kz
open Bool renaming eq_iff_iff->ef,not_false->fy,not_true->c8
open Go.IntKind renaming wrap->δ
open Int renaming ofNat_tdiv->jz,ofNat_tmod->fm,tdiv->dk,tmod->bo,toNat_natCast->π
open List renaming append_assoc->υ,append_nil->χ,cons_append->gx,drop->c9,drop_drop->dh,drop_eq_getElem_cons->gb,drop_of_length_le->cm,drop_zero->cc,eq_nil_of_length_eq_zero->gv,flatMap_cons->cf,getD_eq_getElem?_getD->ba,getElem?_cons_zero->fh,getElem?_drop->dv,getElem?_eq_getElem->ε,getElem_mem->da,length_append->κ,length_cons->ξ,length_drop->aq,length_eq_zero_iff->fw,length_map->μ,length_nil->au,length_take->bu,map_append->bn,map_cons->cx,mem_append->dn,mem_cons->bw,mem_map->c7,mem_singleton->bk,nil_append->cg,not_mem_nil->dm,take->cw,take_of_length_le->bc
open Nat renaming add_assoc->fb,add_mul->cn,add_sub_cancel->kj,le_refl->ω,le_trans->cq,mul_le_mul_right->cu,mul_one->cz,pow_le_pow_right->fv,zero_add->bf
set_option linter.all false
namespace Go.Proofs.Tryz
open Go.Eng
theorem aF{α:Type}{c:Bool}{a b:Option α}(h:c=true):if? c a b=a:=by rw[h];rfl
theorem aE{α:Type}{c:Bool}{a b:Option α}(h:c=false):if? c a b=b:=by rw[h];rfl
abbrev Vr:=TM
end Go.Proofs.Tryz
set_option maxRecDepth 8000
set_option synthInstance.maxSize 100000
set_option synthInstance.maxHeartbeats 400000
namespace Go.Proofs.Tryz
open Go.Eng Go.RowKit Go.Lib
variable{N i k:Nat}{s:Str}{l:List Int}{α:Type}{n a:Int}{v:Vr}
theorem q8(n:Nat):δ .u8 (n:Int)=((n%256:Nat):Int):=by rw[IntKind.wrap_u8];omega
theorem q64{x:Int}(h:0<=x)(h':x<18446744073709551616):δ .u64 x=x:=by rw[IntKind.wrap_u64];omega
def I64(n:Int):Prop:=-9223372036854775808<=n/\n<=9223372036854775807
theorem aDn(s:Str)(i:Nat):(aG s)[i]?=(s[i]?).map fun c=>(c.toNat:Int):=by unfold aG;rw[List.getElem?_map]
theorem cR(s:Str):bI (aG s)=s:=by
 unfold bI aG;rw[List.map_map]
 conv=>rhs;rw[<-List.map_id s]
 refine List.map_congr_left fun c _=>?_;show UInt8.ofNat ((c.toNat:Int)).toNat=c;rw[π];exact UInt8.ofNat_toNat
theorem gX(s t:Str):aG (s++t)=aG s++aG t:=bn
theorem aGb{t:Str}{n:Nat}:aG (t.take n)=(aG t).take n:=by unfold aG;rw[List.map_take]
theorem aAo{t:Str}{n:Nat}:aG (t.drop n)=(aG t).drop n:=by unfold aG;rw[List.map_drop]
theorem bOe(m:Nat):pR (m+1)=uV (pR m):=rfl
theorem aQg:∀(k z m:Nat) (a:List Int),z<128^(k+1)->z<18446744073709551616->k<m->a.length+k<1000000->
  pR m (z:Int) a=some (a++aG (uvarint z))
 |k,z,0,a,_,_,h,_=>by omega
 |k,z,m+1,a,hz,hz2,hm,hal=>by
  rw[bOe];unfold uV;rw[q8];by_cases h:128<=z
  ·obtain⟨k',rfl⟩:∃k',k=k'+1:=⟨k-1,by cases k with
    |zero=>have:128^(0+1)=128:=rfl;omega
    |succ k=>rfl⟩
   have e1:bits .or .u8 ((z%256:Nat):Int) 128=((z%128+128:Nat):Int):=by rw[Go.Lib.u8_or128_any _ (by omega) (by omega)];omega
   have e4:(z:Int)/2^7=((z/128:Nat):Int):=rfl;rw[e1,e4,aF (decide_eq_true (by omega)),aD,aC (by simp only[ξ,au];omega),aD];rw[aQg k' (z/128) m (a++[((z%128+128:Nat):Int)]) (by have:128^(k'+1+1)=128^(k'+1)*128:=rfl;omega) (by omega) (by omega) (by simp only[κ,ξ,au];omega),uvarint_big h,υ];refine congrArg (fun l=>some (a++l)) ?_;show _::aG (uvarint (z/128))=(((z%128+128).toUInt8.toNat:Nat):Int)::aG (uvarint (z/128));rw[show(z%128+128).toUInt8.toNat=z%128+128 by
    show(z%128+128)%256=_;omega]
  ·rw[aE (decide_eq_false (by omega)),aD,aC (by simp only[ξ,au];omega),aD,uvarint_small (by omega)];refine congrArg (fun l=>some (a++l)) ?_;show[((z%256:Nat):Int)]=[((z.toUInt8.toNat:Nat):Int)];rw[show z.toUInt8.toNat=z%256 from rfl]
theorem bEg(N:Nat)(n:Int)(hN:20<=N)(hn:I64 n):eD N n=some (aG (uvarint (zigzag n))):=by
 obtain⟨h1,h2⟩:=hn;have e1:(2:Int)^63=9223372036854775808:=rfl;have e2:(2:Int)^1=2:=rfl;have hz:zigzag n<18446744073709551616:=by unfold zigzag;split<;>omega
 have key:bits .xor .u64 (δ .u64 ((δ .u64 n)*2)) (δ .u64 (n/9223372036854775808))=((zigzag n:Nat):Int):=by
  by_cases h:0<=n
  ·have hz':zigzag n=(2*n).toNat:=by unfold zigzag;rw[if_pos h]
   rw[show n/9223372036854775808=((0:Nat):Int) by omega,q64 (x:=n) h (by omega),q64 (x:=n*2) (by omega) (by omega),q64 (x:=((0:Nat):Int)) (by omega) (by omega),show n*2=(((2*n).toNat:Nat):Int) by omega,Go.bits_xor_u64_nat _ _ (by omega) (by omega),Nat.xor_zero,hz']
  ·have hz':zigzag n=(-2*n-1).toNat:=by unfold zigzag;rw[if_neg h]
   have w:∀x:Int,δ .u64 x=x%18446744073709551616:=fun x=>IntKind.wrap_u64 x;obtain⟨y,hy,hy2⟩:∃y:Nat,(((n%18446744073709551616)*2)%18446744073709551616:Int)=(y:Int)/\(y:Int)=18446744073709551616+2*n:=⟨(18446744073709551616+2*n).toNat,by omega,by omega⟩;rw[w,w,w,hy,show n/9223372036854775808%18446744073709551616=((18446744073709551615:Nat):Int) by omega,Go.bits_xor_u64_nat _ _ (by omega) (by omega)];have hx:y^^^18446744073709551615=18446744073709551615-y:=by
    rw[Nat.xor_comm];apply Nat.eq_of_testBit_eq;intro i;rw[Nat.testBit_xor,show 18446744073709551615-y=2^64-(y+1) by omega,Nat.testBit_two_pow_sub_succ (by omega),show(18446744073709551615:Nat)=2^64-(0+1)from rfl,Nat.testBit_two_pow_sub_succ (by omega)];by_cases hi:i<64
    ·simp[hi]
    ·have:y.testBit i=false:=Nat.testBit_lt_two_pow (Nat.lt_of_lt_of_le (show y<2^64 by omega) (fv (by decide) (by omega)));simp[hi,this]
   rw[hx,hz'];omega
 unfold eD;rw[e1,e2,key,aQg 9 (zigzag n) N [] (by have:128^(9+1)=1180591620717411303424:=rfl;omega) hz (by omega) (by simp),cg]
def unz(z:Nat):Int:=if z%2=0 then((z/2:Nat):Int)else-((z/2:Nat):Int)-1
def giN:Nat->Nat->Str->Int×Int×Int
 |_,_,[]=>(0,0,10)
 |k,z,c::r=>if(k=9/\1<c.toNat)\/(0<k/\c.toNat=0)then(0,0,11)else if c.toNat<128 then(unz (z+c.toNat%128*128^k),((k+1:Nat):Int),0)else giN (k+1) (z+c.toNat%128*128^k) r
theorem aK3(n:Int)(h₀:0<=n)(h₁:n<2^64):IntKind.u64.wrap n=n:=by rw[IntKind.wrap_u64];omega
theorem bEj(x b:Nat)(hx:x<9223372036854775808)(hb:b<2):bits .xor .i64 (x:Int) (-(b:Int))=if b=0 then(x:Int)else-(x:Int)-1:=by
 obtain rfl|rfl:b=0\/b=1:=by omega
 ·simp only[bits,if_pos];rw[show(-((0:Nat):Int))=((0:Nat):Int)from rfl,ka,ka,BitVec.toNat_xor,kz,kz];rw[show(0%2^IntKind.i64.bits)=0 from rfl,Nat.xor_zero,IntKind.wrap_i64,show IntKind.i64.bits=64 from rfl];omega
 ·rw[if_neg (by decide)];simp only[bits];have hone:BitVec.ofInt IntKind.i64.bits (-((1:Nat):Int))=BitVec.allOnes IntKind.i64.bits:=by decide
  rw[hone,ka,BitVec.xor_allOnes,BitVec.toNat_not,kz,IntKind.wrap_i64,show IntKind.i64.bits=64 from rfl];omega
theorem aP6(z k c:Nat)(hz:z<128^k)(hk:k<=9)(hc:c<256)(h9:k=9->c<=1):
  bits .or .u64 (z:Int) (δ .u64 ((δ .u64 ((bits .and .u8 (c:Int) 127)))*2^(7*(k:Int)).toNat))=((z+c%128*128^k:Nat):Int)/\z+c%128*128^k<18446744073709551616/\(k<9->z+c%128*128^k<128^(k+1)):=by
 have p9:128^k<=9223372036854775808:=cq (fv (by decide) hk) (by decide);have hm:c%128<128:=Nat.mod_lt _ (by decide);have hb:z+c%128*128^k<18446744073709551616/\(k<9->z+c%128*128^k<128^(k+1)):=by
  have e:128^(k+1)=128^k*128:=rfl;have h1:c%128*128^k<=127*128^k:=cu _ (by omega);refine⟨?_,fun _=>by omega⟩;by_cases h:k=9
  ·subst h;have h2:c%128*128^9<=1*128^9:=cu _ (by have:=h9 rfl;omega);omega
  ·have p8:128^k<=72057594037927936:=cq (fv (by decide) (show k<=8 by omega)) (by decide);omega
 refine⟨?_,hb⟩;have e1:bits .and .u8 (c:Int) 127=((c%128:Nat):Int):=by have:=bits_mask .u8 8 (by decide) wraps_u8 7 (by decide) (c:Int) (by omega) (by omega);rw[show((2:Int)^7-1)=127 from rfl]at this;rw[this];omega
 have e2:(2:Int)^(7*(k:Int)).toNat=((128^k:Nat):Int):=by rw[show(7*(k:Int)).toNat=7*k by omega,Int.pow_mul];simp
 have hx:c%128*128^k<18446744073709551616:=by omega
 rw[e1,q64 (x:=((c%128:Nat):Int)) (by omega) (by omega),e2,<-Int.natCast_mul,q64 (x:=((c%128*128^k:Nat):Int)) (by omega) (by omega),(bits_nat .u64 64 (by decide) aK3 _ _ (by omega) (by omega)).2];congr 1;have e3:128^k=2^(7*k):=by rw[Nat.pow_mul]
 rw[e3]at hz|-;have:=Nat.shiftLeft_add_eq_or_of_lt hz (c%128);rw[Nat.shiftLeft_eq]at this;rw[Nat.or_comm,<-this,Nat.add_comm]
def giL:Nat->Nat->Str->TG⊕TO
 |_,z,[]=>.inr ((z:Int),0)
 |k,z,c::r=>if(k=9/\1<c.toNat)\/(0<k/\c.toNat=0)then .inl (0,(0,11))else if c.toNat<128 then .inr (((z+c.toNat%128*128^k:Nat):Int),((k+1:Nat):Int))else giL (k+1) (z+c.toNat%128*128^k) r
def giT:TG⊕TO->Int×Int×Int
 |.inl r=>r
 |.inr v=>if v.2=0 then(0,0,10)else(unz v.1.toNat,v.2,0)
theorem bG9:∀(r:Str) (k z:Nat),giT (giL k z r)=giN k z r
 |[],k,z=>rfl
 |c::r,k,z=>by
  rw[giL,giN];by_cases h:(k=9/\1<c.toNat)\/(0<k/\c.toNat=0)
  ·rw[if_pos h,if_pos h];rfl
  ·rw[if_neg h,if_neg h];by_cases h2:c.toNat<128
   ·rw[if_pos h2,if_pos h2];unfold giT;dsimp only;rw[if_neg (by omega),π]
   ·rw[if_neg h2,if_neg h2];exact bG9 r _ _
theorem bHc:∀(r:Str) (k z:Nat) (v:Int×Int),k<=9->z<128^k->giL k z r=.inr v->∃y:Nat,v.1=(y:Int)/\y<18446744073709551616/\∃u:Nat,v.2=(u:Int)
 |[],k,z,v,hk,hz,h=>by
  cases h;have p9:128^k<=9223372036854775808:=cq (fv (by decide) hk) (by decide);exact⟨z,rfl,by omega,0,rfl⟩
 |c::r,k,z,v,hk,hz,h=>by
  rw[giL]at h;have hcl:=c.toNat_lt;by_cases hb:(k=9/\1<c.toNat)\/(0<k/\c.toNat=0)
  ·rw[if_pos hb]at h;cases h
  ·rw[if_neg hb]at h;obtain⟨_,h2,h3⟩:=aP6 z k c.toNat hz hk (by omega) (by omega);by_cases hh:c.toNat<128
   ·rw[if_pos hh]at h;cases h;exact⟨_,rfl,h2,k+1,rfl⟩
   ·rw[if_neg hh]at h;exact bHc r (k+1) _ v (by omega) (h3 (by omega)) h
theorem bMh(m:Nat):gN (m+1)=kX (gN m):=rfl
theorem aUn(s:Str):∀(r:Str) (k z m:Nat),s.drop k=r->k<=9->z<128^k->10<m+k->gN m (z:Int) 0 (aG s) (((aG s).length:Nat):Int) (k:Int)=some (giL k z r)
 |r,k,z,0,_,_,_,h=>by omega
 |[],k,z,m+1,hr,hk,hz,hm=>by
  have:s.length<=k:=by have:=congrArg List.length hr;rw[aq,au]at this;omega
  rw[bMh];unfold kX;rw[aP,aE (decide_eq_false (by omega))];rfl
 |c::r,k,z,m+1,hr,hk,hz,hm=>by
  have hlen:k<s.length:=by have:=congrArg List.length hr;rw[aq,ξ]at this;omega
  have hc:s[k]=c:=by have:=congrArg (·[0]?) hr;simp only[dv,Nat.add_zero,fh]at this;rw[ε hlen]at this;exact Option.some.inj this
  have hr':s.drop (k+1)=r:=by have:=congrArg List.tail hr;rw[List.tail_drop]at this;exact this
  have hcl:=c.toNat_lt;have hget:(aG s)[k]?=some (c.toNat:Int):=by rw[aDn,ε hlen,hc];rfl
  have rec_:=fun z' h1 h2 h3=>aUn s r (k+1) z' m hr' h1 h2 h3;rw[bMh,giL];unfold kX;rw[aP]at rec_|-;rw[aF (decide_eq_true (by omega)),bJ hget];generalize hcn:c.toNat=d at*;by_cases hbad:(k=9/\1<d)\/(0<k/\d=0)
  ·rw[if_pos hbad];by_cases h9:k=9
   ·subst h9;rw[show(((9:Nat):Int)==9)=true from rfl,aN,aB];dsimp only;by_cases h1:1<d
    ·rw[aF (decide_eq_true (by omega)),aB];rfl
    ·have h0:d=0:=by omega
     subst h0;rfl
   ·have hd:0<k/\d=0:=by omega
    rw[show((k:Int)==9)=false by rw[beq_eq_false_iff_ne];omega,aK,aB];dsimp only;rw[aK,aF (decide_eq_true (by omega)),aB];dsimp only;rw[show((d:Int)==0)=true by rw[beq_iff_eq];omega,aN];rfl
  ·rw[if_neg hbad];obtain⟨e1,e2,e3⟩:=aP6 z k d hz hk (by omega) (by omega);have fin:∀x:Bool,x=false->(bd? (some ((z:Int),(0:Int),(k:Int),(d:Int),aG s,(s.length:Int),(k:Int),x)) fun w10=>if? (w10.2.2.2.2.2.2.2) (lN (some ((0,(0,11))))) (ck .i64 ((7*w10.2.2.1)) (gd? ((0<=(7*w10.2.2.1))) (gd? (((7*w10.2.2.1)<=(((IntKind.bits .u64):Nat):Int))) (if? (decide (w10.2.2.2.1<128)) (ck .i64 ((w10.2.2.1+1)) (some (.inr ((bits .or .u64 w10.1 (δ .u64 ((δ .u64 (bits .and .u8 w10.2.2.2.1 127))*(2^(7*w10.2.2.1).toNat)))),(w10.2.2.1+1))))) (ck .i64 ((w10.2.2.2.2.2.2.1+1)) (gN m (bits .or .u64 w10.1 (δ .u64 ((δ .u64 (bits .and .u8 w10.2.2.2.1 127))*(2^(7*w10.2.2.1).toNat)))) w10.2.1 w10.2.2.2.2.1 w10.2.2.2.2.2.1 (w10.2.2.2.2.2.2.1+1))))))))=some (if d<128 then .inr (((z+d%128*128^k:Nat):Int),((k+1:Nat):Int))else giL (k+1) (z+d%128*128^k) r):=by
    intro x hx;subst hx;rw[aB];dsimp only;rw[aK,aM (by omega) (by omega),aC (by omega),aC (by show _<=((64:Nat):Int);omega),e1];by_cases hh:d<128
    ·rw[aF (decide_eq_true (by omega)),aM (by omega) (by omega),if_pos hh,show(k:Int)+1=((k+1:Nat):Int) by omega]
    ·rw[aE (decide_eq_false (by omega)),aM (by omega) (by omega),if_neg hh,show(k:Int)+1=((k+1:Nat):Int) by omega];exact rec_ _ (by omega) (e3 (by omega)) (by omega)
   by_cases h9:k=9
   ·rw[show((k:Int)==9)=true by rw[beq_iff_eq];omega,aN,aB];dsimp only;rw[aE (decide_eq_false (by omega)),aF (decide_eq_true (by omega))];exact fin _ (by rw[beq_eq_false_iff_ne];omega)
   ·rw[show((k:Int)==9)=false by rw[beq_eq_false_iff_ne];omega,aK,aB];dsimp only;rw[aK];by_cases h0:0<k
    ·rw[aF (decide_eq_true (by omega))];exact fin _ (by rw[beq_eq_false_iff_ne];omega)
    ·rw[aE (decide_eq_false (by omega))];exact fin _ rfl
def gi(s:Str):Int×Int×Int:=giN 0 0 s
theorem aDj(hN:11<=N)(s:Str):hZ N (aG s)=some (gi s):=by
 unfold hZ;have h:=aUn s s 0 0 N rfl (by omega) (by decide) (by omega);rw[show(((0:Nat):Int))=0 from rfl]at h;rw[h];unfold gi;rw[<-bG9];cases e:giL 0 0 s with
 |inl r=>rfl
 |inr v=>
  obtain⟨y,h1,h2,u,h3⟩:=bHc s 0 0 v (by omega) (by decide) e;obtain⟨a,b⟩:=v;dsimp only at h1 h3;subst h1 h3;rw[aEr];dsimp only[giT];by_cases hu:u=0
  ·subst hu;rfl
  ·have e5:bits .and .u64 (y:Int) 1=((y%2:Nat):Int):=by have:=bits_mask .u64 64 (by decide) aK3 1 (by decide) (y:Int) (by omega) (by omega);rw[show((2:Int)^1-1)=1 from rfl]at this;rw[this];omega
   have e4:(y:Int)/2^1=((y/2:Nat):Int):=rfl;rw[aE (by rw[beq_eq_false_iff_ne];omega),e5,e4,vE (n:=((y%2:Nat):Int)) (by omega) (by omega),vE (n:=((y/2:Nat):Int)) (by omega) (by omega),aM (by omega) (by omega),bEj _ _ (by omega) (by omega),if_neg (show¬((u:Int)=0) by omega),π];rfl
set_option maxRecDepth 8000
set_option synthInstance.maxSize 100000
set_option synthInstance.maxHeartbeats 400000
theorem bD9{z:Nat}(h:z<18446744073709551616):I64 (unz z):=by unfold unz I64;split<;>omega
theorem bAq:∀(s:Str) (k z:Nat),k<=9->z<128^k->(((giN k z s).2.2=0/\∃u:Nat,(giN k z s).2.1=(u:Int)/\k+1<=u/\u<=k+s.length/\u<=10/\I64 (giN k z s).1)\/((giN k z s).1=0/\(giN k z s).2.1=0/\((giN k z s).2.2=10\/(giN k z s).2.2=11)))
 |[],k,z,_,_=>.inr ⟨rfl,rfl,.inl rfl⟩
 |c::s,k,z,hk,hz=>by
  rw[giN];by_cases hb:(k=9/\1<c.toNat)\/(0<k/\c.toNat=0)
  ·rw[if_pos hb];exact .inr ⟨rfl,rfl,.inr rfl⟩
  ·rw[if_neg hb];have hcl:=c.toNat_lt;obtain⟨_,h2,h3⟩:=aP6 z k c.toNat hz hk (by omega) (by omega);by_cases hh:c.toNat<128
   ·rw[if_pos hh];exact .inl ⟨rfl,k+1,rfl,by omega,by simp only[ξ];omega,by omega,bD9 h2⟩
   ·rw[if_neg hh];have hk9:k<9:=by omega
    rcases bAq s (k+1) _ (by omega) (h3 hk9)with⟨e,u,h1,h2,h3,h4,h5⟩|h
    ·exact .inl ⟨e,u,h1,by omega,by simp only[ξ];omega,h4,h5⟩
    ·exact .inr h
theorem yZ(s:Str):((gi s).2.2=0/\∃u:Nat,(gi s).2.1=(u:Int)/\1<=u/\u<=s.length/\u<=10/\I64 (gi s).1)\/((gi s).1=0/\(gi s).2.1=0/\((gi s).2.2=10\/(gi s).2.2=11)):=by
 rcases bAq s 0 0 (by omega) (by decide)with⟨e,u,h1,h2,h3,h4,h5⟩|h
 ·exact .inl ⟨e,u,h1,by omega,by omega,h4,h5⟩
 ·exact .inr h
def bM(s:Str):Int×Int×Int:=
 if(gi s).2.2≠0 then(0,0,(gi s).2.2)else if(gi s).1<0 then(0,0,11)else if(gi s).1>(s.length:Int)-(gi s).2.1 then(0,0,10)else((gi s).1,(gi s).2.1,0)
theorem jT{b:Int}(h:a=b):(a !=b)=false:=by rw[bne_eq_false_iff_eq];exact h
theorem mV{b:Int}(h:a≠b):(a !=b)=true:=by rw[bne_iff_ne];exact h
theorem aCx(hN:11<=N)(s:Str)(hs:s.length<=1000000):hH N (aG s) 1=some (bM s):=by
 unfold hH bM;rw[aDj hN,aB,aP];rcases yZ s with⟨e,u,h1,h2,h3,h4,h5⟩|⟨h1,h2,h3⟩
 ·obtain⟨b1,b2⟩:=h5;rw[jT e,aK,if_neg (by rw[e];simp),h1,Int.tdiv_one];by_cases hn:(gi s).1<0
  ·rw[aF (decide_eq_true hn),if_pos hn]
  ·rw[aE (decide_eq_false hn),if_neg hn,aM (by omega) (by omega),aC (by decide),aM (by omega) (by omega)];by_cases hg:(gi s).1>(s.length:Int)-(u:Int)
   ·rw[aF (decide_eq_true hg),if_pos hg]
   ·rw[aE (decide_eq_false hg),if_neg hg]
 ·have hne:(gi s).2.2≠0:=by omega
  rw[mV hne,aN,if_pos hne]
theorem nH(s:Str):((bM s).2.2=0/\∃n u:Nat,bM s=((n:Int),(u:Int),0)/\1<=u/\n+u<=s.length)\/((bM s).1=0/\(bM s).2.1=0/\((bM s).2.2=10\/(bM s).2.2=11)):=by
 unfold bM;rcases yZ s with⟨e,u,h1,h2,h3,h4,h5⟩|⟨h1,h2,h3⟩
 ·rw[if_neg (by rw[e];simp)];by_cases hn:(gi s).1<0
  ·rw[if_pos hn];exact .inr ⟨rfl,rfl,.inr rfl⟩
  ·rw[if_neg hn];by_cases hg:(gi s).1>(s.length:Int)-(gi s).2.1
   ·rw[if_pos hg];exact .inr ⟨rfl,rfl,.inl rfl⟩
   ·rw[if_neg hg];refine .inl ⟨rfl,(gi s).1.toNat,u,?_,h2,by omega⟩;rw[h1,Int.toNat_of_nonneg (by omega)]
 ·rw[if_pos (by omega)];exact .inr ⟨rfl,rfl,h3⟩
def lT:Nat->Str->Int->List Int->List Int×Int×Int
 |0,_,a,acc=>(acc,a,0)
 |n+1,r,a,acc=>if(gi r).2.2≠0 then([],0,(gi r).2.2)else lT n (r.drop (gi r).2.1.toNat) (a+(gi r).2.1) (acc++[(gi r).1])
theorem xQ(s:Str)(a:Nat):((aG s).drop a).take ((aG s).length-a)=aG (s.drop a):=by rw[aAo,bc (by rw[aq];exact ω _)]
theorem bGf(N m:Nat):jU N (m+1)=jP N (jU N m):=rfl
def swp{α:Type}(v:α×Int×Int):Int×(Int×α):=(v.2.1,(v.2.2,v.1))
theorem aGi{N:Nat}(hN:11<=N)(s:Str)(v:Nat)(hs:s.length<=1000000):∀(n a b m:Nat) (acc:List Int),v=b+n->a<=s.length->b+n<=1000000->acc.length=b->n<m->
  jU N m (aG s) (a:Int) (v:Int) (b:Int) acc=some (swp (lT n (s.drop a) (a:Int) acc))
 |n,a,b,0,acc,_,_,_,_,h=>by omega
 |0,a,b,m+1,acc,hv,ha,hb,hacc,_=>by
  rw[bGf];unfold jP;rw[aE (decide_eq_false (by omega)),aD];rfl
 |n+1,a,b,m+1,acc,hv,ha,hb,hacc,hm=>by
  rw[bGf];unfold jP;rw[aF (decide_eq_true (by omega)),aC (by omega),π,aC (by rw[aP];exact ha),aC (ω _),xQ,aDj hN,aB,lT];rcases yZ (s.drop a)with⟨e,u,h1,h2,h3,h4,h5⟩|⟨h1,h2,h3⟩
  ·rw[aq]at h3;rw[jT e,aK,if_neg (by rw[e];simp),aD,aC (by simp only[ξ,au];omega),h1,aM (by omega) (by omega),aM (by omega) (by omega),aD,show((a:Int)+(u:Int))=((a+u:Nat):Int) by omega,show((b:Int)+1)=((b+1:Nat):Int) by omega,
    aGi hN s v hs n (a+u) (b+1) m _ (by omega) (by omega) (by omega) (by simp[hacc]) (by omega),π,dh]
  ·have hne:(gi (s.drop a)).2.2≠0:=by omega
   rw[mV hne,aN,if_pos hne];rfl
def aH(s:Str):List Int×Int×Int:=if(bM s).2.2≠0 then([],0,(bM s).2.2)else lT (bM s).1.toNat (s.drop (bM s).2.1.toNat) (bM s).2.1 []
theorem aI4(s:Str)(hN:11<=N)(hs:s.length<N)(hb:s.length<=1000000):jF N (aG s)=some (swp (aH s)):=by
 unfold jF rD aH;rw[aCx hN s hb,aB];rcases nH s with⟨e,n,u,h1,h2,h3⟩|⟨h1,h2,h3⟩
 ·rw[jT e,aK,if_neg (by rw[e];simp)];have e1:(bM s).1=(n:Int):=by rw[h1]
  have e2:(bM s).2.1=(u:Int):=by rw[h1]
  rw[e2,e1];have:=aGi hN s n hb n u 0 N [] (by omega) (by omega) (by omega) rfl (by omega);rw[show(((0:Nat):Int))=0 from rfl]at this;rw[this,aB,π,π,aD]
  try rfl
 ·have hne:(bM s).2.2≠0:=by omega
  rw[mV hne,aN,if_pos hne,aB,aD]
  try rfl
def bN(s:Str):Str×Int×Int:=if(bM s).2.2≠0 then([],0,(bM s).2.2)else((s.drop (bM s).2.1.toNat).take (bM s).1.toNat,(bM s).2.1+(bM s).1,0)
theorem aQb(s:Str)(hN:11<=N)(hb:s.length<=1000000):kQ N (aG s)=some (bN s):=by
 unfold kQ bN;rw[aCx hN s hb,aB];rcases nH s with⟨e,n,u,h1,h2,h3⟩|⟨h1,h2,h3⟩
 ·rw[jT e,aK,if_neg (by rw[e];simp)];have e1:(bM s).1=(n:Int):=by rw[h1]
  have e2:(bM s).2.1=(u:Int):=by rw[h1]
  rw[e1,e2,aM (by omega) (by omega),aC (by omega),aC (by omega),aC (by omega),aC (by rw[aP];omega),aM (by omega) (by omega),π,π,show((u:Int)+(n:Int)).toNat-u=n by omega,<-aAo,<-aGb,cR]
 ·have hne:(bM s).2.2≠0:=by omega
  rw[mV hne,aN,if_pos hne]
theorem aDq(s:Str):((bN s).2.2=0/\∃u:Nat,(bN s).2.1=(u:Int)/\1<=u/\u<=s.length/\(bN s).1.length<=s.length)\/((bN s).1=[]/\(bN s).2.1=0/\((bN s).2.2=10\/(bN s).2.2=11)):=by
 unfold bN;rcases nH s with⟨e,n,u,h1,h2,h3⟩|⟨h1,h2,h3⟩
 ·rw[if_neg (by rw[e];simp)];refine .inl ⟨rfl,u+n,by rw[h1];rfl,by omega,by omega,?_⟩;show((s.drop _).take _).length<=_;rw[bu,aq];omega
 ·rw[if_pos (by omega)];exact .inr ⟨rfl,rfl,h3⟩
def lV:Nat->Str->Int->List Str->List Str×Int×Int
 |0,_,a,acc=>(acc,a,0)
 |n+1,r,a,acc=>if(bN r).2.2≠0 then([],0,(bN r).2.2)else lV n (r.drop (bN r).2.1.toNat) (a+(bN r).2.1) (acc++[(bN r).1])
theorem bF3(N m:Nat):fI N (m+1)=fG N (fI N m):=rfl
theorem aIi{N:Nat}(hN:11<=N)(s:Str)(v:Nat)(hs:s.length<=1000000):∀(n a b m:Nat) (acc:List Str),v=b+n->a<=s.length->b+n<=1000000->acc.length=b->n<m->
  fI N m (aG s) (a:Int) (v:Int) (b:Int) acc=some (swp (lV n (s.drop a) (a:Int) acc))
 |n,a,b,0,acc,_,_,_,_,h=>by omega
 |0,a,b,m+1,acc,hv,ha,hb,hacc,_=>by
  rw[bF3];unfold fG;rw[aE (decide_eq_false (by omega)),aD];rfl
 |n+1,a,b,m+1,acc,hv,ha,hb,hacc,hm=>by
  rw[bF3];unfold fG;rw[aF (decide_eq_true (by omega)),aC (by omega),π,aC (by rw[aP];exact ha),aC (ω _),xQ,aQb _ hN (by rw[aq];omega),aB,lV];rcases aDq (s.drop a)with⟨e,u,h1,h2,h3,h4⟩|⟨h1,h2,h3⟩
  ·rw[aq]at h3;rw[jT e,aK,if_neg (by rw[e];simp),aD,aC (by simp only[ξ,au];omega),h1,aM (by omega) (by omega),aM (by omega) (by omega),aD,show((a:Int)+(u:Int))=((a+u:Nat):Int) by omega,show((b:Int)+1)=((b+1:Nat):Int) by omega,
    aIi hN s v hs n (a+u) (b+1) m _ (by omega) (by omega) (by omega) (by simp[hacc]) (by omega),π,dh]
  ·have hne:(bN (s.drop a)).2.2≠0:=by omega
   rw[mV hne,aN,if_pos hne];rfl
def dH(s:Str):List Str×Int×Int:=if(bM s).2.2≠0 then([],0,(bM s).2.2)else lV (bM s).1.toNat (s.drop (bM s).2.1.toNat) (bM s).2.1 []
theorem aJl(s:Str)(hN:11<=N)(hs:s.length<N)(hb:s.length<=1000000):iC N (aG s)=some (swp (dH s)):=by
 unfold iC mR dH;rw[aCx hN s hb,aB];rcases nH s with⟨e,n,u,h1,h2,h3⟩|⟨h1,h2,h3⟩
 ·rw[jT e,aK,if_neg (by rw[e];simp)];have e1:(bM s).1=(n:Int):=by rw[h1]
  have e2:(bM s).2.1=(u:Int):=by rw[h1]
  rw[e2,e1];have:=aIi hN s n hb n u 0 N [] (by omega) (by omega) (by omega) rfl (by omega);rw[show(((0:Nat):Int))=0 from rfl]at this;rw[this,aB,π,π,aD]
  try rfl
 ·have hne:(bM s).2.2≠0:=by omega
  rw[mV hne,aN,if_pos hne,aB,aD]
  try rfl
theorem kC{b:Int}(h:a=b):(a==b)=true:=by rw[beq_iff_eq];exact h
theorem fA{b:Int}(h:a≠b):(a==b)=false:=by rw[beq_eq_false_iff_ne];exact h
theorem aPg:∀(n:Nat) (r:Str) (a:Nat) (acc:List Int),(∀x∈acc,I64 x)->((lT n r (a:Int) acc).2.2=0/\∃u:Nat,(lT n r (a:Int) acc).2.1=(u:Int)/\a<=u/\u<=a+r.length/\(lT n r (a:Int) acc).1.length=acc.length+n/\∀x∈(lT n r (a:Int) acc).1,I64 x)\/((lT n r (a:Int) acc).2.2≠0)
 |0,r,a,acc,h=>.inl ⟨rfl,a,rfl,by omega,by omega,rfl,h⟩
 |n+1,r,a,acc,h=>by
  rw[lT];rcases yZ r with⟨e,u,h1,h2,h3,h4,h5⟩|⟨h1,h2,h3⟩
  ·rw[if_neg (by rw[e];simp),h1,show((a:Int)+(u:Int))=((a+u:Nat):Int) by omega,π];rcases aPg n (r.drop u) (a+u) (acc++[(gi r).1]) (fun x hx=>by
    rcases dn.1 hx with hx|hx
    ·exact h x hx
    ·rw[bk.1 hx];exact h5)with⟨e',u',g1,g2,g3,g4,g5⟩|g
   ·rw[aq]at g3;exact .inl ⟨e',u',g1,by omega,by omega,by rw[g4];simp;omega,g5⟩
   ·exact .inr g
  ·have hne:(gi r).2.2≠0:=by omega
   rw[if_pos hne];exact .inr hne
theorem mS(s:Str):((aH s).2.2=0/\∃u:Nat,(aH s).2.1=(u:Int)/\u<=s.length/\(aH s).1.length<=s.length/\∀x∈(aH s).1,I64 x)\/((aH s).2.2≠0):=by
 unfold aH;rcases nH s with⟨e,n,u,h1,h2,h3⟩|⟨h1,h2,h3⟩
 ·rw[if_neg (by rw[e];simp)];have e1:(bM s).1=(n:Int):=by rw[h1]
  have e2:(bM s).2.1=(u:Int):=by rw[h1]
  rw[e1,e2,π,π];rcases aPg n (s.drop u) u [] (fun x hx=>by cases hx)with⟨e',u',g1,g2,g3,g4,g5⟩|g
  ·rw[aq]at g3;exact .inl ⟨e',u',g1,by omega,by rw[g4];simp;omega,g5⟩
  ·exact .inr g
 ·have hne:(bM s).2.2≠0:=by omega
  rw[if_pos hne];exact .inr hne
theorem aRf:∀(n:Nat) (r:Str) (a:Nat) (acc:List Str),((lV n r (a:Int) acc).2.2=0/\∃u:Nat,(lV n r (a:Int) acc).2.1=(u:Int)/\a<=u/\u<=a+r.length/\(lV n r (a:Int) acc).1.length=acc.length+n/\∀b:Nat,r.length<=b->(∀x∈acc,x.length<=b)->∀x∈(lV n r (a:Int) acc).1,x.length<=b)\/((lV n r (a:Int) acc).2.2≠0)
 |0,r,a,acc=>.inl ⟨rfl,a,rfl,by omega,by omega,rfl,fun _ _ h=>h⟩
 |n+1,r,a,acc=>by
  rw[lV];rcases aDq r with⟨e,u,h1,h2,h3,h4⟩|⟨h1,h2,h3⟩
  ·rw[if_neg (by rw[e];simp),h1,show((a:Int)+(u:Int))=((a+u:Nat):Int) by omega,π];rcases aRf n (r.drop u) (a+u) (acc++[(bN r).1])with⟨e',u',g1,g2,g3,g4,g5⟩|g
   ·rw[aq]at g3;refine .inl ⟨e',u',g1,by omega,by omega,by rw[g4];simp;omega,fun b hb hx=>g5 b (by rw[aq];omega) fun x hx'=>?_⟩;rcases dn.1 hx' with hx'|hx'
    ·exact hx x hx'
    ·rw[bk.1 hx'];omega
   ·exact .inr g
  ·have hne:(bN r).2.2≠0:=by omega
   rw[if_pos hne];exact .inr hne
theorem aBq(s:Str):((dH s).2.2=0/\∃u:Nat,(dH s).2.1=(u:Int)/\u<=s.length/\(dH s).1.length<=s.length/\∀x∈(dH s).1,x.length<=s.length)\/((dH s).2.2≠0):=by
 unfold dH;rcases nH s with⟨e,n,u,h1,h2,h3⟩|⟨h1,h2,h3⟩
 ·rw[if_neg (by rw[e];simp)];have e1:(bM s).1=(n:Int):=by rw[h1]
  have e2:(bM s).2.1=(u:Int):=by rw[h1]
  rw[e1,e2,π,π];rcases aRf n (s.drop u) u []with⟨e',u',g1,g2,g3,g4,g5⟩|g
  ·rw[aq]at g3;exact .inl ⟨e',u',g1,by omega,by rw[g4];simp;omega,g5 s.length (by rw[aq];omega) fun x hx=>by cases hx⟩
  ·exact .inr g
 ·have hne:(bM s).2.2≠0:=by omega
  rw[if_pos hne];exact .inr hne
def hd(s:Str)(k:Int)(c:Nat)(more:Bool):Option (List Int×List Str):=
 if(aH s).2.2=0/\(aH s).1.length=c/\(aH s).1.getD 0 0=k then
  if more=true then
   if(dH (s.drop (aH s).2.1.toNat)).2.2=0/\(aH s).2.1+(dH (s.drop (aH s).2.1.toNat)).2.1=(s.length:Int)then some ((aH s).1,(dH (s.drop (aH s).2.1.toNat)).1)else none
  else if(aH s).2.1=(s.length:Int)then some ((aH s).1,[])else none
 else none
theorem aHr(s:Str)(a:Nat):(s.drop a).take (s.length-a)=s.drop a:=bc (by rw[aq];exact ω _)
def oS{α:Type}:Option α->α⊕Unit
 |some x=>.inl x
 |none=>.inr ()
theorem wW(N:Nat){b:Bool}(h:b=true):bH N b=some (.inl ()):=by subst h;rfl
theorem mG(N:Nat){b:Bool}(h:b=false):bH N b=some (.inr ()):=by subst h;rfl
theorem aOf(s:Str)(k:Int)(c:Nat)(more:Bool)(hN:11<=N)(hs:s.length<N)(hb:s.length<=1000000)(hc:1<=c):lQ N s k (c:Int) more=some (oS (hd s k c more)):=by
 unfold lQ hd;rw[aI4 s hN hs hb,aB];unfold swp;dsimp only;rcases mS s with⟨e,u,h1,h2,h3,h4⟩|h
 ·rw[kC e,aN];by_cases hl:(aH s).1.length=c
  ·obtain⟨x,r,hx⟩:∃x r,(aH s).1=x::r:=by
    cases hg:(aH s).1 with
    |nil=>rw[hg]at hl;simp at hl;omega
    |cons x r=>exact⟨x,r,rfl⟩
   have hg0:(aH s).1[0]?=some x:=by rw[hx];rfl
   have hgD:(aH s).1.getD 0 0=x:=by rw[hx];rfl
   rw[kC (show((aH s).1.length:Int)=(c:Int) by omega),aN,aC (by omega),aPm hg0,hgD];by_cases hk:x=k
   ·rw[wW N (kC hk),aB,rR,aD,aEr,if_pos ⟨e,hl,hk⟩];dsimp only;cases more with
    |true=>
     rw[c8,aK,if_pos rfl,h1,π,aC (by omega),aC h2,aC (ω _),aHr,aJl _ hN (by rw[aq];omega) (by rw[aq];omega),aB];unfold swp;dsimp only;rcases aBq (s.drop u)with⟨e',u',g1,g2,g3,g4⟩|g
     ·rw[aq]at g2;rw[kC e',aN,g1,aM (by omega) (by omega)];by_cases hh:(u:Int)+(u':Int)=(s.length:Int)
      ·rw[wW N (kC hh),aB,rR,aD,aD,aEr,if_pos ⟨e',hh⟩];dsimp only;rw[aD,aD];rfl
      ·rw[mG N (fA hh),aB,oY,pM,yR,if_neg (fun q=>hh q.2)];rfl
     ·rw[fA g,aK,mG N rfl,aB,oY,pM,yR,if_neg (fun q=>g q.1)];rfl
    |false=>
     rw[fy,aN,if_neg (by decide)];by_cases hh:(aH s).2.1=(s.length:Int)
     ·rw[wW N (kC hh),aB,rR,aD,if_pos hh];rfl
     ·rw[mG N (fA hh),aB,oY,if_neg hh];rfl
   ·rw[mG N (fA hk),aB,oY,pM,yR,if_neg (fun q=>hk q.2.2)];rfl
  ·rw[fA (show((aH s).1.length:Int)≠(c:Int) by omega),aK,mG N rfl,aB,oY,pM,yR,if_neg (fun q=>hl q.2.1)];rfl
 ·rw[fA h,aK,mG N rfl,aB,oY,pM,yR,if_neg (fun q=>h q.1)];rfl
theorem aKl{k:Int}{c:Nat}{more:Bool}{v:List Int×List Str}(h:hd s k c more=some v):v.1.length=c/\(∀x∈v.1,I64 x)/\v.2.length<=s.length/\∀x∈v.2,x.length<=s.length:=by
 unfold hd at h;split at h
 ·rename_i hh;obtain⟨e,hl,hk⟩:=hh;rcases mS s with⟨_,u,h1,h2,h3,h4⟩|g
  ·split at h
   ·split at h
    ·rename_i hh;cases h;rcases aBq (s.drop (aH s).2.1.toNat)with⟨_,u',g1,g2,g3,g4⟩|g
     ·rw[aq]at g3 g4;exact⟨hl,h4,cq g3 (Nat.sub_le _ _),fun x hx=>cq (g4 x hx) (Nat.sub_le _ _)⟩
     ·exact absurd hh.1 g
    ·cases h
   ·split at h
    ·cases h;exact⟨hl,h4,by simp,fun x hx=>by cases hx⟩
    ·cases h
  ·exact absurd e g
 ·cases h
def uvI(n:Int):Str:=uvarint (zigzag n)
def cS(l:List Int):Str:=uvI (l.length:Int)++l.flatMap uvI
def fR(s:Str):Str:=uvI (s.length:Int)++s
def sL(l:List Str):Str:=uvI (l.length:Int)++l.flatMap fR
theorem aS2(h:I64 n):zigzag n<18446744073709551616:=by obtain⟨h1,h2⟩:=h;unfold zigzag;split<;>omega
theorem bEv(n:Int):unz (zigzag n)=n:=by unfold unz zigzag;split<;>split<;>omega
theorem cM(h:I64 n):1<=(uvI n).length/\(uvI n).length<=10:=⟨uvarint_pos _,uvarint_length64 (aS2 h)⟩
theorem bDt(r:Str):∀(x k z:Nat),z+x*128^k<18446744073709551616->(0<x\/k=0)->giN k z (uvarint x++r)=(unz (z+x*128^k),((k+(uvarint x).length:Nat):Int),0):=by
 intro x
 induction x using Nat.strongRecOn with
 |_ x ih=>
  intro k z hb h0;have h9:k=9->x<=1:=fun e=>by subst e;have:128^9=9223372036854775808:=rfl;rw[this]at hb;omega
  by_cases hx:x<128
  ·rw[uvarint_small hx,List.singleton_append,giN];have hc:x.toUInt8.toNat=x:=by show x%256=x;omega
   rw[hc,if_neg (by omega),if_pos hx,Nat.mod_eq_of_lt hx];rfl
  ·rw[uvarint_big (by omega),gx,giN];have hc:(x%128+128).toUInt8.toNat=x%128+128:=by show(x%128+128)%256=_;omega
   have e:z+x%128*128^k+x/128*128^(k+1)=z+x*128^k:=by
    have h1:x/128*128^(k+1)=(x/128*128)*128^k:=by rw[Nat.pow_succ,Nat.mul_comm (128^k) 128,Nat.mul_assoc]
    rw[h1,fb,<-cn];congr 2;omega
   rw[hc,if_neg (by omega),if_neg (by omega),show(x%128+128)%128=x%128 by omega,ih (x/128) (by omega) (k+1) _ (by rw[e];exact hb) (.inl (by omega)),e,ξ];have:k+1+(uvarint (x/128)).length=k+((uvarint (x/128)).length+1):=by omega
   rw[this]
theorem aNx(h:I64 n)(r:Str):gi (uvI n++r)=(n,((uvI n).length:Int),0):=by unfold gi uvI;rw[bDt r (zigzag n) 0 0 (by have:=aS2 h;omega) (.inr rfl),bf,Nat.pow_zero,cz,bEv,bf]
theorem dK{n:Nat}(h:n<=1000000):I64 (n:Int):=⟨by omega,by omega⟩
theorem aH8{n:Nat}(h:n<=1000000)(r:Str)(hr:n<=r.length):bM (uvI (n:Int)++r)=((n:Int),((uvI (n:Int)).length:Int),0):=by unfold bM;rw[aNx (dK h)];rw[if_neg (by simp),if_neg (by simp only;omega),if_neg (by simp only[κ];omega)]
theorem aCh{α:Type}(f:α->Str):∀(l:List α),(∀x∈l,1<=(f x).length)->l.length<=(l.flatMap f).length
 |[],_=>ω _
 |x::l,h=>by rw[cf,κ,ξ];have:=aCh f l (fun y hy=>h y (by simp[hy]));have:=h x (by simp);omega
theorem nQ(a b:List α):(a++b).drop a.length=b:=by rw[List.drop_append,cm (ω _),cg,Nat.sub_self,cc]
theorem aYq(a b:List α):(a++b).take a.length=a:=by rw[List.take_append,bc (ω _),Nat.sub_self,List.take_zero,χ]
theorem aKd(r:Str):∀(l:List Int) (a:Nat) (acc:List Int),(∀x∈l,I64 x)->lT l.length (l.flatMap uvI++r) (a:Int) acc=(acc++l,((a+(l.flatMap uvI).length:Nat):Int),0)
 |[],a,acc,_=>by rw[χ];rfl
 |x::l,a,acc,h=>by rw[cf,υ,ξ,lT,aNx (h x (by simp))];rw[if_neg (by simp)];show lT l.length ((uvI x++(l.flatMap uvI++r)).drop ((uvI x).length:Int).toNat) ((a:Int)+((uvI x).length:Int)) (acc++[x])=_;rw[π,nQ,show((a:Int)+((uvI x).length:Int))=((a+(uvI x).length:Nat):Int) by omega,aKd r l _ _ (fun y hy=>h y (by simp[hy])),υ,κ,fb];rfl
theorem qG(h:∀x∈l,I64 x)(hl:l.length<=1000000)(r:Str):aH (cS l++r)=(l,((cS l).length:Int),0):=by unfold aH cS;have:=aCh uvI l (fun x hx=>(cM (h x hx)).1);rw[υ,aH8 hl _ (by rw[κ];omega),if_neg (by simp)];show lT (l.length:Int).toNat ((uvI (l.length:Int)++(l.flatMap uvI++r)).drop ((uvI (l.length:Int)).length:Int).toNat) ((uvI (l.length:Int)).length:Int) []=_;rw[π,π,nQ,aKd r l _ _ h,cg,κ]
theorem aTc(h:s.length<=1000000)(r:Str):bN (fR s++r)=(s,((fR s).length:Int),0):=by unfold bN fR;rw[υ,aH8 h _ (by rw[κ];omega),if_neg (by simp)];show(((uvI (s.length:Int)++(s++r)).drop ((uvI (s.length:Int)).length:Int).toNat).take (s.length:Int).toNat,_,_)=_;rw[π,π,nQ,aYq,κ];refine congrArg (fun x=>(s,x,(0:Int))) ?_;show((uvI (s.length:Int)).length:Int)+(s.length:Int)=_;omega
theorem aYb(h:s.length<=1000000):1<=(fR s).length:=by unfold fR;have:=(cM (dK h)).1;rw[κ];omega
theorem aKn(r:Str):∀(l:List Str) (a:Nat) (acc:List Str),(∀x∈l,x.length<=1000000)->lV l.length (l.flatMap fR++r) (a:Int) acc=(acc++l,((a+(l.flatMap fR).length:Nat):Int),0)
 |[],a,acc,_=>by rw[χ];rfl
 |x::l,a,acc,h=>by rw[cf,υ,ξ,lV,aTc (h x (by simp))];rw[if_neg (by simp)];show lV l.length ((fR x++(l.flatMap fR++r)).drop ((fR x).length:Int).toNat) ((a:Int)+((fR x).length:Int)) (acc++[x])=_;rw[π,nQ,show((a:Int)+((fR x).length:Int))=((a+(fR x).length:Nat):Int) by omega,aKn r l _ _ (fun y hy=>h y (by simp[hy])),υ,κ,fb];rfl
theorem aDu{l:List Str}(h:∀x∈l,x.length<=1000000)(hl:l.length<=1000000)(r:Str):dH (sL l++r)=(l,((sL l).length:Int),0):=by unfold dH sL;have:=aCh fR l (fun x hx=>aYb (h x hx));rw[υ,aH8 hl _ (by rw[κ];omega),if_neg (by simp)];show lV (l.length:Int).toNat ((uvI (l.length:Int)++(l.flatMap fR++r)).drop ((uvI (l.length:Int)).length:Int).toNat) ((uvI (l.length:Int)).length:Int) []=_;rw[π,π,nQ,aKn r l _ _ h,cg,κ]
theorem bAn(h:∀x∈l,I64 x)(hl:l.length<=1000000)(k:Int)(c:Nat)(h1:l.length=c)(h2:l.getD 0 0=k):hd (cS l) k c false=some (l,[]):=by unfold hd;have:=qG h hl [];rw[χ]at this;rw[this,if_pos ⟨rfl,h1,h2⟩,if_neg (by decide),if_pos rfl]
theorem aT0{p:List Str}(h:∀x∈l,I64 x)(hl:l.length<=1000000)(hp:∀x∈p,x.length<=1000000)(hpl:p.length<=1000000)(k:Int)(c:Nat)(h1:l.length=c)(h2:l.getD 0 0=k):hd (cS l++sL p) k c true=some (l,p):=by
 unfold hd;rw[qG h hl (sL p),if_pos ⟨rfl,h1,h2⟩,if_pos rfl];have e:(cS l++sL p).drop ((l,((cS l).length:Int),(0:Int)).2.1).toNat=sL p:=by show(cS l++sL p).drop ((cS l).length:Int).toNat=sL p;rw[π,nQ]
 rw[e];have:=aDu hp hpl [];rw[χ]at this;rw[this,if_pos ⟨rfl,by simp only[κ];omega⟩]
abbrev Rd:=Int×(Int×TQ)
abbrev Pt:=Int×(Bool×(Str×Str))
theorem bGq(N m:Nat):iD N (m+1)=iT N (iD N m):=rfl
theorem bF7(N m:Nat):eP N (m+1)=eU N (eP N m):=rfl
theorem gP{l:List α}(h:i<l.length):l.drop i=l[i]::l.drop (i+1):=gb h
theorem aAe(hN:20<=N)(hn:I64 n):eD N n=some (aG (uvI n)):=bEg N n hN hn
theorem aLq{N:Nat}(hN:20<=N)(l:List Int)(h:∀x∈l,I64 x)(hl:l.length<=100000):∀(k i m:Nat) (acc:List Int),i+k=l.length->k<m->acc.length<=10+10*i->iD N m l ((l.length:Nat):Int) (i:Int) acc=some (acc++aG ((l.drop i).flatMap uvI))
 |k,i,0,acc,_,h,_=>by omega
 |0,i,m+1,acc,hi,_,_=>by
  rw[bGq];unfold iT;rw[aE (decide_eq_false (by omega)),aD,cm (by omega)];exact congrArg some (χ acc).symm
 |k+1,i,m+1,acc,hi,hm,ha=>by
  have hlt:i<l.length:=by omega
  have hx:=h _ (da hlt);have hu:=cM hx;rw[bGq];unfold iT;rw[aF (decide_eq_true (by omega)),bJ (ε hlt),aAe hN hx,aB,aD,aD,aC (by rw[aP];omega),aM (by omega) (by omega),aD,show((i:Int)+1)=((i+1:Nat):Int) by omega,aLq hN l h hl k (i+1) m _ (by omega) (by omega) (by rw[κ,aP];omega),gP hlt,cf,gX,υ]
theorem aG1(hN:20<=N)(l:List Int)(h:∀x∈l,I64 x)(hl:l.length<N)(hb:l.length<=100000):eB N l=some (cS l):=by unfold eB wT pJ;rw[aAe hN (dK (by omega)),aB,aD];have hu:=cM (dK (show l.length<=1000000 by omega));have:=aLq hN l h hb l.length 0 N (aG (uvI (l.length:Int))) (by omega) hl (by rw[aP];omega);rw[show(((0:Nat):Int))=0 from rfl]at this;rw[this,aB,aD,aB,aD,cc,<-gX,cR];rfl
theorem aLc(hN:20<=N)(s:Str)(hs:s.length<=1000000):mT N s=some (aG (fR s)):=by unfold mT;have hu:=cM (dK hs);rw[aAe hN (dK hs),aB,aD,aC (by rw[aP,aP];omega),aD,<-gX];rfl
theorem aKi{N:Nat}(hN:20<=N)(l:List Str)(h:∀x∈l,x.length<=100000)(hl:l.length<=100000):∀(k i m:Nat) (acc:List Int),i+k=l.length->k<m->acc.length<=10+200000*i->eP N m l ((l.length:Nat):Int) (i:Int) acc=some (acc++aG ((l.drop i).flatMap fR))
 |k,i,0,acc,_,h,_=>by omega
 |0,i,m+1,acc,hi,_,_=>by
  rw[bF7];unfold eU;rw[aE (decide_eq_false (by omega)),aD,cm (by omega)];exact congrArg some (χ acc).symm
 |k+1,i,m+1,acc,hi,hm,ha=>by
  have hlt:i<l.length:=by omega
  have hx:=h _ (da hlt);have hu:(fR l[i]).length<=200000:=by unfold fR;have:=(cM (dK (show(l[i]).length<=1000000 by omega))).2;rw[κ];omega
  rw[bF7];unfold eU;rw[aF (decide_eq_true (by omega)),bJ (ε hlt),aLc hN _ (by omega),aB,aD,aD,aC (by rw[aP];omega),aM (by omega) (by omega),aD,show((i:Int)+1)=((i+1:Nat):Int) by omega,aKi hN l h hl k (i+1) m _ (by omega) (by omega) (by rw[κ,aP];omega),gP hlt,cf,gX,υ]
theorem aSb(hN:20<=N)(l:List Str)(h:∀x∈l,x.length<=100000)(hl:l.length<N)(hb:l.length<=100000):qX N l=some (aG (sL l)):=by unfold qX qV;rw[aAe hN (dK (by omega)),aB,aD];have hu:=cM (dK (show l.length<=1000000 by omega));have:=aKi hN l h hb l.length 0 N (aG (uvI (l.length:Int))) (by omega) hl (by rw[aP];omega);rw[show(((0:Nat):Int))=0 from rfl]at this;rw[this,aB,aD,cc,<-gX];rfl
def rl(r:Rd):List Int:=[1,r.1,r.2.1,r.2.2.1,r.2.2.2.1,r.2.2.2.2.1,r.2.2.2.2.2]
def aTr(r:Rd):Str:=cS (rl r)
def okR(r:Rd):Prop:=∀x∈rl r,I64 x
theorem nT{β:Type}{l:List α}{d:α}{f:α->Option β}(h:i<l.length):aZ l (i:Int) f=f (l.getD i d):=by rw[bJ (ε h),ba,ε h];rfl
def grd(s:Str):Rd×Int:=
 match hd s 1 7 false with
 |none=>((0,(0,(0,(0,(0,0))))),11)
 |some v=>((v.1.getD 1 0,(v.1.getD 2 0,(v.1.getD 3 0,(v.1.getD 4 0,(v.1.getD 5 0,v.1.getD 6 0))))),0)
theorem aJ0(s:Str)(hN:11<=N)(hs:s.length<N)(hb:s.length<=1000000):dJ N s=some (grd s):=by
 unfold dJ grd;rw[show(7:Int)=((7:Nat):Int)from rfl,aOf s 1 7 false hN hs hb (by omega),aB];cases h:hd s 1 7 false with
 |none=>rfl
 |some v=>
  have hl:=(aKl h).1;unfold oS;rw[rR,show(1:Int)=((1:Nat):Int)from rfl,nT (d:=0) (by omega),show(2:Int)=((2:Nat):Int)from rfl,nT (d:=0) (by omega),show(3:Int)=((3:Nat):Int)from rfl,nT (d:=0) (by omega),show(4:Int)=((4:Nat):Int)from rfl,nT (d:=0) (by omega),show(5:Int)=((5:Nat):Int)from rfl,nT (d:=0) (by omega),show(6:Int)=((6:Nat):Int)from rfl,nT (d:=0) (by omega)];rfl
theorem bEz{r:Rd}(h:okR r):grd (aTr r)=(r,0):=by unfold grd aTr;rw[bAn h (by show 7<=_;omega) 1 7 rfl rfl];rfl
def sgb(b:Bool):Int:=if b then 1 else 0
def prt(p:Pt):List Str:=[uvI p.1,uvI (sgb p.2.1),p.2.2.1,p.2.2.2]
def vl(v:Vr):List Int:=[2,v.1,v.2.1,v.2.2.1,v.2.2.2.1,v.2.2.2.2.1,v.2.2.2.2.2.1,v.2.2.2.2.2.2.1]
abbrev vp(v:Vr):List Pt:=v.2.2.2.2.2.2.2
def vU(v:Vr):Str:=cS (vl v)++sL ((vp v).flatMap prt)
def okP(l:List Pt):Prop:=∀p∈l,I64 p.1/\p.2.2.1.length<=50000/\p.2.2.2.length<=50000
def okV(v:Vr):Prop:=(∀x∈vl v,I64 x)/\(vp v).length<=1000/\okP (vp v)
theorem aVt:I64 0/\I64 1:=⟨⟨by decide,by decide⟩,⟨by decide,by decide⟩⟩
theorem aRz(b:Bool):I64 (sgb b):=by cases b<;>exact⟨by decide,by decide⟩
theorem oA(l:List Pt):(l.flatMap prt).length=4*l.length:=by
 induction l with
 |nil=>rfl
 |cons x l ih=>rw[cf,κ,ih,ξ];show 4+_=_;omega
theorem aSm{l:List Pt}(h:okP l):∀x∈l.flatMap prt,x.length<=50000:=fun x hx=>by
 obtain⟨p,hp,hx⟩:=List.mem_flatMap.1 hx;obtain⟨h1,h2,h3⟩:=h p hp;unfold prt at hx;simp only[bw,dm,or_false]at hx;rcases hx with rfl|rfl|rfl|rfl
 ·have:=(cM h1).2;omega
 ·have:=(cM (aRz p.2.1)).2;omega
 ·exact h2
 ·exact h3
theorem aDa(l:List α)(i:Nat)(h:i<l.length):l.take (i+1)=l.take i++[l[i]]:=by rw[List.take_add_one,ε h];rfl
theorem aVh{k:Nat}:∀l:List Str,k<=1000000->(∀x∈l,x.length<=k)->(l.flatMap fR).length<=(k+10)*l.length
 |[],_,_=>ω _
 |x::l,hk,h=>by
  have h1:=aVh l hk (fun y hy=>h y (by simp[hy]));have h2:=h x (by simp);have h3:=(cM (dK (show x.length<=1000000 by omega))).2;have h4:(fR x).length<=k+10:=by unfold fR;rw[κ];omega
  rw[cf,κ,ξ,Nat.mul_succ];omega
theorem aZk:∀l:List Int,(∀x∈l,I64 x)->(l.flatMap uvI).length<=10*l.length
 |[],_=>ω _
 |x::l,h=>by have h1:=aZk l (fun y hy=>h y (by simp[hy]));have h2:=(cM (h x (by simp))).2;rw[cf,κ,ξ];omega
theorem aFu(h:∀x∈l,I64 x)(hb:l.length<=1000000):(cS l).length<=10*l.length+10:=by unfold cS;have:=(cM (dK hb)).2;have:=aZk l h;rw[κ];omega
theorem aTy{l:List Str}(hk:k<=1000000)(h:∀x∈l,x.length<=k)(hb:l.length<=1000000):(sL l).length<=(k+10)*l.length+10:=by unfold sL;have:=(cM (dK hb)).2;have:=aVh l hk h;rw[κ];omega
def one(s:Str):Option Int:=if(gi s).2.2=0/\(gi s).2.1=(s.length:Int)then some (gi s).1 else none
theorem bBs(hN:11<=N)(s:Str):rI N s=some (oS (one s)):=by
 unfold rI one;rw[aDj hN,aB];by_cases e:(gi s).2.2=0
 ·rw[kC e,aN];by_cases hh:(gi s).2.1=(s.length:Int)
  ·rw[wW N (kC hh),aB,rR,aEr,if_pos ⟨e,hh⟩];rfl
  ·rw[mG N (fA hh),aB,oY,pM,yR,if_neg (fun q=>hh q.2)];rfl
 ·rw[fA e,aK,mG N rfl,aB,oY,pM,yR,if_neg (fun q=>e q.1)];rfl
def pts:List Str->List Pt->Option (List Pt)
 |a::b::c::d::r,acc=>match one a,one b with
  |some st,some ng=>if ng=0\/ng=1 then pts r (acc++[(st,(ng==1,(c,d)))])else none
  |_,_=>none
 |_,acc=>some acc
def vz:Vr:=(0,(0,(0,(0,(0,(0,(0,[])))))))
def vD(l:List Int)(p:List Pt):Vr:=(l.getD 1 0,(l.getD 2 0,(l.getD 3 0,(l.getD 4 0,(l.getD 5 0,(l.getD 6 0,(l.getD 7 0,p)))))))
def gvr(s:Str):Vr×Int:=
 match hd s 2 8 true with
 |none=>(vz,11)
 | some v=>if v.2.length % 4=0 then
   match pts v.2 []with
   |none=>(vz,11)
   |some l=>(vD v.1 l,0)
  else(vz,11)
def fl(v:Vr×Int):Int×(Int×(Int×(Int×(Int×(Int×(Int×(List Pt×Int))))))):=(v.1.1,(v.1.2.1,(v.1.2.2.1,(v.1.2.2.2.1,(v.1.2.2.2.2.1,(v.1.2.2.2.2.2.1,(v.1.2.2.2.2.2.2.1,(v.1.2.2.2.2.2.2.2,v.2))))))))
def pt'(l:List Int):Option (List Pt)->Vr×Int
 |none=>(vz,11)
 |some p=>(vD l p,0)
theorem bLj(N m:Nat):cO N (m+1)=fD N (cO N m):=rfl
theorem mN(N:Nat)(e:Int):aW N e=some 11:=rfl
theorem aOz(N:Nat)(e:Int):gL N e=some e:=rfl
theorem aQ5{N:Nat}(hN:11<=N)(v:List Int)(hv:v.length=8):∀(k m:Nat) (l:List Str) (acc:List Pt),l.length=4*k->k<m->acc.length+k<=1000000->
  cO N m v l 0 0 0 0 0 0 0 0 [] acc=some (fl (pt' v (pts l acc)))
 |k,0,l,acc,_,h,_=>by omega
 |0,m+1,l,acc,hl,_,_=>by
  have:l=[]:=fw.1 (by omega);subst this;rw[bLj];unfold fD;rw[aE (by rfl),show(1:Int)=((1:Nat):Int)from rfl,nT (d:=0) (by omega),show(2:Int)=((2:Nat):Int)from rfl,nT (d:=0) (by omega),show(3:Int)=((3:Nat):Int)from rfl,nT (d:=0) (by omega),show(4:Int)=((4:Nat):Int)from rfl,nT (d:=0) (by omega),show(5:Int)=((5:Nat):Int)from rfl,nT (d:=0) (by omega),show(6:Int)=((6:Nat):Int)from rfl,nT (d:=0) (by omega),show(7:Int)=((7:Nat):Int)from rfl,nT (d:=0) (by omega)];simp only[bOm,aOz,aB,aD];rfl
 |k+1,m+1,l,acc,hl,hm,hb=>by
  obtain⟨a,b,c,d,r,rfl⟩:∃a b c d r,l=a::b::c::d::r:=by
   match l,hl with
   |a::b::c::d::r,_=>exact⟨a,b,c,d,r,rfl⟩
   |[],h=>simp at h
   |[_],h=>simp at h;omega
   |[_,_],h=>simp at h;omega
   |[_,_,_],h=>simp at h;omega
  have hr:r.length=4*k:=by simp only[ξ]at hl;omega
  have e4:cw ((a::b::c::d::r).length-4) (c9 4 (a::b::c::d::r))=r:=by show r.take (r.length+4-4)=r;rw[kj,List.take_length]
  have fin:∀(st ng:Int) (x:Bool),x=(ng==1)->(gd? ((((acc.length+[(st,(x,(c,d)))].length)*48)<=140737488355328)) (gd? ((4<=(a::b::c::d::r).length)) (gd? (((a::b::c::d::r).length<=(a::b::c::d::r).length)) (gl? (([]:List Pt).length) ([]:List Pt) (gl? ((acc++[(st,(x,(c,d)))]).length) ((acc++[(st,(x,(c,d)))])) (cO N m v (cw ((a::b::c::d::r).length-4) (c9 4 (a::b::c::d::r))) 0 0 0 0 0 0 0 0 [] (acc++[(st,(x,(c,d)))])))))))=cO N m v r 0 0 0 0 0 0 0 0 [] (acc++[(st,(ng==1,(c,d)))]):=fun st ng x hx=>by subst hx;rw[aC (by simp only[ξ,au];omega),aC (by simp only[ξ];omega),aC (ω _),aD,aD,e4]
  rw[bLj];unfold fD;rw[aF (decide_eq_true (by simp only[ξ];omega)),wN (x:=a) (by decide) rfl,wN (x:=b) (by decide) rfl,bBs hN,aB,bBs hN,pts];cases ha:one a with
  |none=>
   unfold oS;rw[oY,mN,aB,aD];rfl
  |some st=>
   cases hb2:one b with
   |none=>
    unfold oS;rw[rR,aB,oY,mN,aB,aD];rfl
   |some ng=>
    unfold oS;rw[rR,aB,rR];have ih:=aQ5 hN v hv k m r (acc++[(st,(ng==1,(c,d)))]) hr (by omega) (by simp only[κ,ξ,au];omega);by_cases h0:ng=0
    ·rw[kC h0,aN,wW N rfl,aB,rR,aD,aD,aEr];dsimp only;rw[wN (x:=c) (by decide) rfl,wN (x:=d) (by decide) rfl,aD];refine(fin st ng _ rfl).trans (ih.trans ?_);simp only[h0,true_or,if_true]
    ·rw[fA h0,aK];by_cases h1:ng=1
     ·rw[wW N (kC h1),aB,rR,aD,aD,aEr];dsimp only;rw[wN (x:=c) (by decide) rfl,wN (x:=d) (by decide) rfl,aD];refine(fin st ng _ rfl).trans (ih.trans ?_);simp only[if_pos (Or.inr h1:ng=0\/ng=1)]
     ·rw[mG N (fA h1),aB,oY,mN,aB,aD,pM,yR];simp only[h0,h1,or_self,if_false];rfl
theorem aJn(s:Str)(hN:11<=N)(hs:s.length+1<N)(hb:s.length<=100000):iM N s=some (fl (gvr s)):=by
 unfold iM gvr;rw[show(8:Int)=((8:Nat):Int)from rfl,aOf s 2 8 true hN (by omega) (by omega) (by omega),aB];cases h:hd s 2 8 true with
 |none=>rfl
 |some v=>
  obtain⟨hl,_,hp,_⟩:=aKl h;unfold oS;rw[rR];dsimp only;by_cases h4:v.2.length%4=0
  ·have:bo (v.2.length:Int) 4=0:=by rw[show(4:Int)=((4:Nat):Int)from rfl,<-fm,h4];rfl
   rw[wW N (kC this),aB,rR,aQ5 hN v.1 hl (v.2.length/4) N v.2 [] (by omega) (by omega) (by simp;omega),if_pos h4];cases pts v.2 []<;>rfl
  ·have:bo (v.2.length:Int) 4≠0:=by rw[show(4:Int)=((4:Nat):Int)from rfl,<-fm];omega
   rw[mG N (fA this),aB,oY,mN,aB,if_neg h4];rfl
theorem aUd(h:I64 n):one (uvI n)=some n:=by unfold one;have:=aNx h [];rw[χ]at this;rw[this,if_pos ⟨rfl,rfl⟩]
theorem aV4:∀(l acc:List Pt),(∀p∈l,I64 p.1)->pts (l.flatMap prt) acc=some (acc++l)
 |[],acc,_=>by rw[χ];rfl
 |p::l,acc,h=>by
  rw[cf];show pts (uvI p.1::uvI (sgb p.2.1)::p.2.2.1::p.2.2.2::l.flatMap prt) acc=_;rw[pts,aUd (h p (by simp)),aUd (aRz _)];have e:((p.1,(sgb p.2.1==1,(p.2.2.1,p.2.2.2))):Pt)=p:=by obtain⟨st,ng,a,b⟩:=p;cases ng<;>rfl
  have h01:sgb p.2.1=0\/sgb p.2.1=1:=by cases p.2.1<;>simp[sgb]
  simp only[if_pos h01];rw[e,aV4 l _ (fun q hq=>h q (by simp[hq])),υ];rfl
theorem bCs(h:okV v):gvr (vU v)=(v,0):=by obtain⟨h1,h2,h3⟩:=h;unfold gvr vU;have hp:=aSm h3;rw[aT0 h1 (by show 8<=_;omega) (fun x hx=>by have:=hp x hx;omega) (by rw[oA];omega) 2 8 rfl rfl];simp only;rw[if_pos (by rw[oA];omega),aV4 _ [] (fun p hp=>(h3 p hp).1)];rfl
theorem xZ{s a b:List α}(h:s=a++b):s.drop a.length=b:=by rw[h];exact nQ a b
theorem aUf:∀(s:Str) (k z:Nat),k<=9->z<128^k->(giN k z s).2.2=0->∃y r,s=uvarint y++r/\(0<y\/k=0)/\z+y*128^k<18446744073709551616/\giN k z s=(unz (z+y*128^k),((k+(uvarint y).length:Nat):Int),0)
 |[],k,z,_,_,h=>by cases h
 |c::s,k,z,hk,hz,h=>by
  rw[giN]at h|-;have hcl:=c.toNat_lt;by_cases hb:(k=9/\1<c.toNat)\/(0<k/\c.toNat=0)
  ·rw[if_pos hb]at h;cases h
  ·rw[if_neg hb]at h|-;obtain⟨_,h2,h3⟩:=aP6 z k c.toNat hz hk (by omega) (by omega);by_cases hh:c.toNat<128
   ·rw[if_pos hh];rw[Nat.mod_eq_of_lt hh]at h2|-;have e:c.toNat.toUInt8=c:=UInt8.ofNat_toNat;refine⟨c.toNat,s,?_,by omega,h2,?_⟩
    ·rw[uvarint_small hh,e];rfl
    ·rw[uvarint_small hh];rfl
   ·rw[if_neg hh]at h|-;obtain⟨y,r,g1,g2,g3,g4⟩:=aUf s (k+1) _ (by omega) (h3 (by omega)) h;have hy:0<y:=by omega
    have e:z+c.toNat%128*128^k+y*128^(k+1)=z+(c.toNat%128+128*y)*128^k:=by
     have h1:y*128^(k+1)=(128*y)*128^k:=by rw[Nat.pow_succ,Nat.mul_comm (128^k) 128,<-Nat.mul_assoc,Nat.mul_comm y 128]
     rw[h1,fb,<-cn]
    have ec:(((c.toNat%128+128*y)%128+128).toUInt8)=c:=by
     have:(c.toNat%128+128*y)%128+128=c.toNat:=by omega
     rw[this];exact UInt8.ofNat_toNat
    have hu:uvarint (c.toNat%128+128*y)=c::uvarint y:=by rw[uvarint_big (x:=c.toNat%128+128*y) (by omega),ec,show(c.toNat%128+128*y)/128=y by omega]
    refine⟨c.toNat%128+128*y,r,?_,.inl (by omega),by rw[<-e];exact g3,?_⟩
    ·rw[hu,gx,<-g1]
    ·rw[g4,e,hu,ξ,show k+1+(uvarint y).length=k+((uvarint y).length+1) by omega]
theorem bCm(z:Nat):zigzag (unz z)=z:=by unfold unz zigzag;split<;>split<;>omega
theorem aTs(h:(gi s).2.2=0):∃r,s=uvI (gi s).1++r/\(gi s).2.1=((uvI (gi s).1).length:Int):=by unfold gi at*;obtain⟨y,r,h1,_,_,h4⟩:=aUf s 0 0 (by omega) (by decide) h;rw[h4];unfold uvI;dsimp only;rw[bf,Nat.pow_zero,cz,bCm,bf];exact⟨r,h1,rfl⟩
theorem aGq(h:(bM s).2.2=0):∃r,s=uvI (bM s).1++r/\(bM s).2.1=((uvI (bM s).1).length:Int):=by
 unfold bM at*;by_cases h1:(gi s).2.2≠0
 ·rw[if_pos h1]at h;exact absurd h h1
 ·rw[if_neg h1]at h|-;by_cases h2:(gi s).1<0
  ·rw[if_pos h2]at h;cases h
  ·rw[if_neg h2]at h|-;by_cases h3:(gi s).1>(s.length:Int)-(gi s).2.1
   ·rw[if_pos h3]at h;cases h
   ·rw[if_neg h3];exact aTs (by omega)
theorem aLm:∀(n:Nat) (r:Str) (a:Nat) (acc:List Int),(lT n r (a:Int) acc).2.2=0->∃l t,(lT n r (a:Int) acc).1=acc++l/\l.length=n/\r=l.flatMap uvI++t/\(lT n r (a:Int) acc).2.1=((a+(l.flatMap uvI).length:Nat):Int)
 |0,r,a,acc,h=>⟨[],r,by rw[χ];rfl,rfl,rfl,rfl⟩
 |n+1,r,a,acc,h=>by
  rw[lT]at h|-;by_cases he:(gi r).2.2≠0
  ·rw[if_pos he]at h;exact absurd h he
  ·rw[if_neg he]at h|-;obtain⟨q,h1,h2⟩:=aTs (show(gi r).2.2=0 by omega);have hd:r.drop (gi r).2.1.toNat=q:=by rw[h2,π];exact xZ h1
   rw[hd,h2,show((a:Int)+((uvI (gi r).1).length:Int))=((a+(uvI (gi r).1).length:Nat):Int) by omega]at h|-;obtain⟨l,t,g1,g2,g3,g4⟩:=aLm n q _ _ h;refine⟨(gi r).1::l,t,by rw[g1,υ];rfl,by rw[ξ,g2],?_,?_⟩
   ·rw[cf,υ,<-g3];exact h1
   ·rw[g4,cf,κ,fb]
theorem aK2(h:(aH s).2.2=0):∃t,s=cS (aH s).1++t/\(aH s).2.1=((cS (aH s).1).length:Int):=by
 unfold aH at*;by_cases h1:(bM s).2.2≠0
 ·rw[if_pos h1]at h;exact absurd h h1
 ·rw[if_neg h1]at h|-;obtain⟨r,g1,g2⟩:=aGq (show(bM s).2.2=0 by omega);rcases nH s with⟨_,n,u,k1,k2,k3⟩|⟨_,_,k⟩
  ·have e1:(bM s).1=(n:Int):=by rw[k1]
   have hd:s.drop (bM s).2.1.toNat=r:=by rw[g2,π];exact xZ g1
   rw[hd,g2,e1,π]at h|-;obtain⟨l,t,j1,j2,j3,j4⟩:=aLm n r _ _ h;rw[cg]at j1;refine⟨t,?_,?_⟩
   ·rw[j1];unfold cS;rw[j2,<-e1,υ,<-j3];exact g1
   ·rw[j4,j1];unfold cS;rw[j2,κ]
  ·omega
theorem aS3(h:(bN s).2.2=0):∃r,s=fR (bN s).1++r/\(bN s).2.1=((fR (bN s).1).length:Int):=by
 unfold bN at*;by_cases h1:(bM s).2.2≠0
 ·rw[if_pos h1]at h;exact absurd h h1
 ·rw[if_neg h1];obtain⟨r,g1,g2⟩:=aGq (show(bM s).2.2=0 by omega);rcases nH s with⟨_,n,u,k1,k2,k3⟩|⟨_,_,k⟩
  ·have e1:(bM s).1=(n:Int):=by rw[k1]
   have hd:s.drop (bM s).2.1.toNat=r:=by rw[g2,π];exact xZ g1
   have hl:s.length=(uvI (n:Int)).length+r.length:=by have:=congrArg List.length g1;rwa[κ,e1]at this
   have hu:u=(uvI (n:Int)).length:=by
    have:(bM s).2.1=(u:Int):=by rw[k1]
    rw[e1]at g2;omega
   rw[hd,e1,π];have ln:(r.take n).length=n:=by rw[bu];omega
   refine⟨r.drop n,?_,?_⟩
   ·dsimp only;unfold fR;rw[ln,<-e1,υ,List.take_append_drop];exact g1
   ·dsimp only;unfold fR;rw[ln,g2,e1,κ,ln];omega
  ·omega
theorem aLp:∀(n:Nat) (r:Str) (a:Nat) (acc:List Str),(lV n r (a:Int) acc).2.2=0->∃l t,(lV n r (a:Int) acc).1=acc++l/\l.length=n/\r=l.flatMap fR++t/\(lV n r (a:Int) acc).2.1=((a+(l.flatMap fR).length:Nat):Int)
 |0,r,a,acc,h=>⟨[],r,by rw[χ];rfl,rfl,rfl,rfl⟩
 |n+1,r,a,acc,h=>by
  rw[lV]at h|-;by_cases he:(bN r).2.2≠0
  ·rw[if_pos he]at h;exact absurd h he
  ·rw[if_neg he]at h|-;obtain⟨q,h1,h2⟩:=aS3 (show(bN r).2.2=0 by omega);have hd:r.drop (bN r).2.1.toNat=q:=by rw[h2,π];exact xZ h1
   rw[hd,h2,show((a:Int)+((fR (bN r).1).length:Int))=((a+(fR (bN r).1).length:Nat):Int) by omega]at h|-;obtain⟨l,t,g1,g2,g3,g4⟩:=aLp n q _ _ h;refine⟨(bN r).1::l,t,by rw[g1,υ];rfl,by rw[ξ,g2],?_,?_⟩
   ·rw[cf,υ,<-g3];exact h1
   ·rw[g4,cf,κ,fb]
theorem aWe(h:(dH s).2.2=0):∃t,s=sL (dH s).1++t/\(dH s).2.1=((sL (dH s).1).length:Int):=by
 unfold dH at*;by_cases h1:(bM s).2.2≠0
 ·rw[if_pos h1]at h;exact absurd h h1
 ·rw[if_neg h1]at h|-;obtain⟨r,g1,g2⟩:=aGq (show(bM s).2.2=0 by omega);rcases nH s with⟨_,n,u,k1,k2,k3⟩|⟨_,_,k⟩
  ·have e1:(bM s).1=(n:Int):=by rw[k1]
   have hd:s.drop (bM s).2.1.toNat=r:=by rw[g2,π];exact xZ g1
   rw[hd,g2,e1,π]at h|-;obtain⟨l,t,j1,j2,j3,j4⟩:=aLp n r _ _ h;rw[cg]at j1;refine⟨t,?_,?_⟩
   ·rw[j1];unfold sL;rw[j2,<-e1,υ,<-j3];exact g1
   ·rw[j4,j1];unfold sL;rw[j2,κ]
  ·omega
theorem aTp{k:Int}{c:Nat}{more:Bool}{v:List Int×List Str}(h:hd s k c more=some v):v.1.length=c/\v.1.getD 0 0=k/\s=cS v.1++(if more then sL v.2 else[]):=by
 unfold hd at h;split at h
 ·rename_i hh;obtain⟨e,hl,hk⟩:=hh;obtain⟨t,g1,g2⟩:=aK2 e;have hdr:s.drop (aH s).2.1.toNat=t:=by rw[g2,π];exact xZ g1
  have hsl:s.length=(cS (aH s).1).length+t.length:=by have:=congrArg List.length g1;rwa[κ]at this
  split at h
  ·rename_i hm;split at h
   ·rename_i hh;cases h;rw[hdr]at hh|-;obtain⟨t',j1,j2⟩:=aWe hh.1;have:t'=[]:=by apply gv;have:=congrArg List.length j1;rw[κ]at this;have:=hh.2;omega
    subst this;rw[χ]at j1;refine⟨hl,hk,?_⟩;rw[hm,if_pos rfl];dsimp only;rw[<-j1];exact g1
   ·cases h
  ·rename_i hm;split at h
   ·rename_i hh;cases h;have:t=[]:=by apply gv;omega
    subst this;refine⟨hl,hk,?_⟩;rw[if_neg hm];exact g1
   ·cases h
 ·cases h
theorem bFw(h:l.length=7):l=[l.getD 0 0,l.getD 1 0,l.getD 2 0,l.getD 3 0,l.getD 4 0,l.getD 5 0,l.getD 6 0]:=by
 match l,h with
 |[a,b,c,d,e,f,g],_=>rfl
theorem bG4(h:l.length=8):l=[l.getD 0 0,l.getD 1 0,l.getD 2 0,l.getD 3 0,l.getD 4 0,l.getD 5 0,l.getD 6 0,l.getD 7 0]:=by
 match l,h with
 |[a,b,c,d,e,f,g,i],_=>rfl
theorem bGi(h:l.length=6):l=[l.getD 0 0,l.getD 1 0,l.getD 2 0,l.getD 3 0,l.getD 4 0,l.getD 5 0]:=by
 match l,h with
 |[a,b,c,d,e,f],_=>rfl
theorem aNp(h:(grd s).2=0):s=aTr (grd s).1/\okR (grd s).1:=by
 unfold grd at*;cases hh:hd s 1 7 false with
 |none=>rw[hh]at h;cases h
 |some v=>
  obtain⟨h1,h2,h3⟩:=aTp hh;have hI:=(aKl hh).2.1;dsimp only;have e:v.1=rl ((v.1.getD 1 0,(v.1.getD 2 0,(v.1.getD 3 0,(v.1.getD 4 0,(v.1.getD 5 0,v.1.getD 6 0)))))):=by have:=bFw h1;rw[h2]at this;exact this
  refine⟨?_,?_⟩
  ·unfold aTr;rw[<-e,h3];simp
  ·unfold okR;rw[<-e];exact hI
theorem bL3(s:Str):(grd s).2=0\/grd s=((0,(0,(0,(0,(0,0))))),11):=by
 unfold grd;cases hd s 1 7 false with
 |none=>exact .inr rfl
 |some v=>exact .inl rfl
theorem aUj(h:one s=some n):s=uvI n/\I64 n:=by
 unfold one at h;split at h
 ·rename_i hh;cases h;obtain⟨r,g1,g2⟩:=aTs hh.1;have:r=[]:=by apply gv;have:=congrArg List.length g1;rw[κ]at this;have:=hh.2;omega
  subst this;rw[χ]at g1;rcases yZ s with⟨_,u,_,_,_,_,h5⟩|⟨_,_,h3⟩
  ·exact⟨g1,h5⟩
  ·have:=hh.1;omega
 ·cases h
theorem aU2:∀(k:Nat) (p:List Str) (acc L:List Pt),p.length=4*k->pts p acc=some L->∃M,L=acc++M/\p=M.flatMap prt/\(∀q∈M,I64 q.1)/\∀q∈M,q.2.2.1∈p/\q.2.2.2∈p
 |0,p,acc,L,hp,h=>by
  have:p=[]:=fw.1 (by omega);subst this;cases h;exact⟨[],by simp,rfl,⟨fun q hq=>(dm hq).elim,fun q hq=>(dm hq).elim⟩⟩
 |k+1,p,acc,L,hp,h=>by
  obtain⟨a,b,c,d,r,rfl⟩:∃a b c d r,p=a::b::c::d::r:=by
   match p,hp with
   |a::b::c::d::r,_=>exact⟨a,b,c,d,r,rfl⟩
   |[],h=>simp at h
   |[_],h=>simp at h;omega
   |[_,_],h=>simp at h;omega
   |[_,_,_],h=>simp at h;omega
  have hr:r.length=4*k:=by simp only[ξ]at hp;omega
  rw[pts]at h;cases ha:one a with
  |none=>rw[ha]at h;cases h
  |some st=>
   cases hb:one b with
   |none=>rw[ha,hb]at h;cases h
   |some ng=>
    rw[ha,hb]at h;dsimp only at h;split at h
    ·rename_i h01;obtain⟨M,g1,g2,g3,g4⟩:=aU2 k r _ L hr h;obtain⟨ea,ia⟩:=aUj ha;obtain⟨eb,ib⟩:=aUj hb;refine⟨(st,(ng==1,(c,d)))::M,by rw[g1,υ];rfl,?_,?_,?_⟩
     ·rw[cf,<-g2];have:sgb (ng==1)=ng:=by rcases h01 with rfl|rfl<;>rfl
      show _=uvI st::uvI (sgb (ng==1))::c::d::r;rw[this,ea,eb]
     ·intro q hq;rcases bw.1 hq with rfl|hq
      ·exact ia
      ·exact g3 q hq
     ·intro q hq;rcases bw.1 hq with rfl|hq
      ·exact⟨by simp,by simp⟩
      ·have:=g4 q hq;exact⟨by simp[this.1],by simp[this.2]⟩
    ·cases h
theorem bL2(s:Str):(gvr s).2=0\/gvr s=(vz,11):=by
 unfold gvr;cases hd s 2 8 true with
 |none=>exact .inr rfl
 |some v=>
  dsimp only;split
  ·split
   ·exact .inr rfl
   ·exact .inl rfl
  ·exact .inr rfl
theorem bDc(hs:s.length<=4000)(h:(gvr s).2=0):s=vU (gvr s).1/\okV (gvr s).1:=by
 unfold gvr at*;cases hh:hd s 2 8 true with
 |none=>rw[hh]at h;cases h
 |some v=>
  rw[hh]at h;obtain⟨h1,h2,h3⟩:=aTp hh;obtain⟨_,hI,hn,hp⟩:=aKl hh;dsimp only at h|-;split at h
  ·rename_i h4;rw[if_pos h4];split at h
   ·cases h
   ·rename_i L hL;dsimp only;obtain⟨M,g1,g2,g3,g4⟩:=aU2 (v.2.length/4) v.2 [] L (by omega) hL;rw[cg]at g1;subst g1;have e:vl (vD v.1 L)=v.1:=by have:=bG4 h1;rw[h2]at this;exact this.symm
    have lM:4*L.length=v.2.length:=by rw[g2,oA]
    refine⟨?_,⟨by rw[e];exact hI,by show L.length<=_;omega,fun q hq=>?_⟩⟩
    ·unfold vU;rw[e,show vp (vD v.1 L)=L from rfl,<-g2];simpa using h3
    ·have hq:q∈L:=hq;have:=g4 q hq;have:=hp _ this.1;have:=hp _ (g4 q hq).2;exact⟨g3 q hq,by omega,by omega⟩
  ·cases h
abbrev Hl:=Int×Int
abbrev Rn:=Int×(Int×(List Hl×TO))
abbrev Bk:=Int×(Int×(Int×(Int×(Int×List Rn))))
variable{b:Bk}
def tbl:List Int->List Hl->List Hl
 |a::b::r,acc=>tbl r (acc++[(a,b)])
 |_,acc=>acc
def rnD(l:List Int):Rn:=(l.getD 0 0,(l.getD 1 0,(tbl (l.drop 4) [],(l.getD 2 0,l.getD 3 0))))
def aIv:List Str->List Rn->Option (List Rn)
 |[],acc=>some acc
 | p :: r,acc=>if (aH p).2.2=0/\(aH p).2.1=(p.length:Int)/\4 <= (aH p).1.length/\(aH p).1.length % 2=0 then
   aIv r (acc++[rnD (aH p).1])else none
def bkz:Bk:=(0,(0,(0,(0,(0,[])))))
def bkD(l:List Int)(r:List Rn):Bk:=(l.getD 1 0,(l.getD 2 0,(l.getD 3 0,(l.getD 4 0,(l.getD 5 0,r)))))
def gbl(s:Str):Bk×Int:=
 match hd s 3 6 true with
 |none=>(bkz,11)
 |some v=>match aIv v.2 []with
  |none=>(bkz,11)
  |some l=>(bkD v.1 l,0)
abbrev brs(b:Bk):List Rn:=b.2.2.2.2.2
def hlI(h:Hl):List Int:=[h.1,h.2]
def rnI(r:Rn):List Int:=[r.1,r.2.1,r.2.2.2.1,r.2.2.2.2]++r.2.2.1.flatMap hlI
def bl(b:Bk):List Int:=[3,b.1,b.2.1,b.2.2.1,b.2.2.2.1,b.2.2.2.2.1]
def uA(b:Bk):Str:=cS (bl b)++sL ((brs b).map fun r=>cS (rnI r))
def okK(b:Bk):Prop:=(∀x∈bl b,I64 x)/\(brs b).length<=1000/\∀r∈brs b,r.2.2.1.length<=1000/\∀x∈rnI r,I64 x
theorem bE1(l:List Hl):(l.flatMap hlI).length=2*l.length:=by
 induction l with
 |nil=>rfl
 |cons x l ih=>rw[cf,κ,ih,ξ];show 2+_=_;omega
theorem lA(r:Rn):(rnI r).length=4+2*r.2.2.1.length:=by unfold rnI;rw[κ,bE1];rfl
theorem aT1:∀(l acc:List Hl),tbl (l.flatMap hlI) acc=acc++l
 |[],acc=>by rw[χ];rfl
 |x::l,acc=>by rw[cf];show tbl (x.1::x.2::l.flatMap hlI) acc=_;rw[tbl,aT1 l,υ];rfl
theorem aU8:∀(k:Nat) (l:List Int) (acc:List Hl),l.length=2*k->∃M,tbl l acc=acc++M/\l=M.flatMap hlI
 |0,l,acc,h=>by
  have:l=[]:=fw.1 (by omega);subst this;exact⟨[],by simp[tbl],rfl⟩
 |k+1,l,acc,h=>by
  obtain⟨a,b,r,rfl⟩:∃a b r,l=a::b::r:=by
   match l,h with
   |a::b::r,_=>exact⟨a,b,r,rfl⟩
   |[],h=>simp at h
   |[_],h=>simp at h;omega
  obtain⟨M,g1,g2⟩:=aU8 k r (acc++[(a,b)]) (by simp only[ξ]at h;omega);refine⟨(a,b)::M,by rw[tbl,g1,υ];rfl,?_⟩;rw[cf,<-g2];rfl
theorem aUo(h4:4<=l.length)(h2:l.length%2=0):rnI (rnD l)=l:=by
 obtain⟨a,b,c,d,r,rfl⟩:∃a b c d r,l=a::b::c::d::r:=by
  match l,h4 with
  |a::b::c::d::r,_=>exact⟨a,b,c,d,r,rfl⟩
  |[],h=>simp at h
  |[_],h=>simp at h
  |[_,_],h=>simp at h
  |[_,_,_],h=>simp at h
 obtain⟨M,g1,g2⟩:=aU8 (r.length/2) r [] (by simp only[ξ]at h2;omega);show[a,b,c,d]++(tbl r []).flatMap hlI=_;rw[g1,cg,<-g2];rfl
theorem bGn(r:Rn):rnD (rnI r)=r:=by obtain⟨a,b,t,c,d⟩:=r;show(a,(b,(tbl (t.flatMap hlI) [],(c,d))))=_;rw[aT1,cg]
theorem aQ7:∀(l acc:List Rn),(∀r∈l,r.2.2.1.length<=1000/\∀x∈rnI r,I64 x)->aIv (l.map fun r=>cS (rnI r)) acc=some (acc++l)
 |[],acc,_=>by rw[χ];rfl
 |r::l,acc,h=>by obtain⟨h1,h2⟩:=h r (by simp);rw[cx,aIv];have:=qG h2 (by rw[lA];omega) [];rw[χ]at this;rw[this,if_pos ⟨rfl,rfl,by rw[lA];omega,by rw[lA];omega⟩,bGn,aQ7 l _ (fun q hq=>h q (by simp[hq])),υ];rfl
theorem bEo(h:okK b):gbl (uA b)=(b,0):=by
 obtain⟨h1,h2,h3⟩:=h;unfold gbl uA;have hp:∀x∈(brs b).map fun r=>cS (rnI r),x.length<=1000000:=fun x hx=>by obtain⟨r,hr,rfl⟩:=c7.1 hx;have:=aFu (h3 r hr).2 (by rw[lA];have:=(h3 r hr).1;omega);rw[lA]at this;have:=(h3 r hr).1;omega
 rw[aT0 h1 (by show 6<=_;omega) hp (by rw[μ];omega) 3 6 rfl rfl];simp only;rw[aQ7 _ [] h3];rfl
theorem bKn(s:Str):(gbl s).2=0\/gbl s=(bkz,11):=by
 unfold gbl;cases hd s 3 6 true with
 |none=>exact .inr rfl
 |some v=>
  dsimp only;cases aIv v.2 []with
  |none=>exact .inr rfl
  |some l=>exact .inl rfl
theorem aO8:∀(p:List Str) (acc L:List Rn),aIv p acc=some L->∃M,L=acc++M/\p=M.map (fun r=>cS (rnI r))/\∀r∈M,2*r.2.2.1.length<=(cS (rnI r)).length/\∀x∈rnI r,I64 x
 |[],acc,L,h=>by
  cases h;exact⟨[],by simp,rfl,fun q hq=>(dm hq).elim⟩
 |q::p,acc,L,h=>by
  rw[aIv]at h;split at h
  ·rename_i hh;obtain⟨e,h1,h2,h3⟩:=hh;obtain⟨M,g1,g2,g3⟩:=aO8 p _ L h;obtain⟨t,j1,j2⟩:=aK2 e;have:t=[]:=by apply gv;have:=congrArg List.length j1;rw[κ]at this;omega
   subst this;rw[χ]at j1;have hI:∀x∈(aH q).1,I64 x:=by
    rcases mS q with⟨_,u,_,_,_,h⟩|h
    ·exact h
    ·exact absurd e h
   refine⟨rnD (aH q).1::M,by rw[g1,υ];rfl,?_,?_⟩
   ·rw[cx,aUo h2 h3,<-j1,<-g2]
   ·intro r hr;rcases bw.1 hr with rfl|hr
    ·rw[aUo h2 h3];refine⟨?_,hI⟩;have l1:(aH q).1.length=4+2*(rnD (aH q).1).2.2.1.length:=by have:=lA (rnD (aH q).1);rwa[aUo h2 h3]at this
     have l2:=aCh uvI (aH q).1 fun x hx=>(cM (hI x hx)).1;unfold cS;rw[κ];omega
    ·exact g3 r hr
  ·cases h
theorem bCo(hs:s.length<=1000)(h:(gbl s).2=0):s=uA (gbl s).1/\okK (gbl s).1:=by
 unfold gbl at*;cases hh:hd s 3 6 true with
 |none=>rw[hh]at h;cases h
 |some v=>
  rw[hh]at h;obtain⟨h1,h2,h3⟩:=aTp hh;obtain⟨_,hI,hn,hp⟩:=aKl hh;dsimp only at h|-;cases hL:aIv v.2 []with
  |none=>rw[hL]at h;cases h
  |some L=>
   obtain⟨M,g1,g2,g3⟩:=aO8 v.2 [] L hL;rw[cg]at g1;subst g1;dsimp only;have e:bl (bkD v.1 L)=v.1:=by have:=bGi h1;rw[h2]at this;exact this.symm
   refine⟨?_,⟨by rw[e];exact hI,?_,fun q hq=>?_⟩⟩
   ·unfold uA;rw[e,show brs (bkD v.1 L)=L from rfl,<-g2];simpa using h3
   ·have:v.2.length=L.length:=by rw[g2,μ]
    show L.length<=_;omega
   ·have hq:q∈L:=hq;refine⟨?_,(g3 q hq).2⟩;have:=(g3 q hq).1;have:=hp (cS (rnI q)) (by rw[g2];exact c7.2 ⟨q,hq,rfl⟩);omega
theorem bN2(m:Nat):kH (m+1)=sK (kH m):=rfl
theorem aKy:∀(k z m:Nat) (a:List Int),z<128^(k+1)->z<18446744073709551616->k<m->a.length+k<1000000->kH m (z:Int) a=some (a++aG (uvarint z))
 |k,z,0,a,_,_,h,_=>by omega
 |k,z,m+1,a,hz,hz2,hm,hal=>by
  rw[bN2];unfold sK;by_cases h:128<=z
  ·obtain⟨k',rfl⟩:∃k',k=k'+1:=⟨k-1,by cases k with
    |zero=>have:128^(0+1)=128:=rfl;omega
    |succ k=>rfl⟩
   have e0:bo (z:Int) 128=((z%128:Nat):Int):=by rw[show(128:Int)=((128:Nat):Int)from rfl,<-fm]
   have e1:δ .u8 ((δ .u8 (bo (z:Int) 128))+128)=((z%128+128:Nat):Int):=by rw[e0,q8,show(((z%128%256:Nat):Int)+128)=((z%128%256+128:Nat):Int) by omega,q8];omega
   have e4:δ .u64 (dk (z:Int) 128)=((z/128:Nat):Int):=by rw[show(128:Int)=((128:Nat):Int)from rfl,<-jz,q64 (by omega) (by omega)]
   rw[e1,e4,aF (decide_eq_true (by omega)),aD,aC (by simp only[ξ,au];omega),aD];rw[aKy k' (z/128) m (a++[((z%128+128:Nat):Int)]) (by have:128^(k'+1+1)=128^(k'+1)*128:=rfl;omega) (by omega) (by omega) (by simp only[κ,ξ,au];omega),uvarint_big h,υ];refine congrArg (fun l=>some (a++l)) ?_;show _::aG (uvarint (z/128))=(((z%128+128).toUInt8.toNat:Nat):Int)::aG (uvarint (z/128));rw[show(z%128+128).toUInt8.toNat=z%128+128 by
    show(z%128+128)%256=_;omega]
  ·rw[aE (decide_eq_false (by omega)),aD,aC (by simp only[ξ,au];omega),aD,q8,uvarint_small (by omega)];refine congrArg (fun l=>some (a++l)) ?_;show[((z%256:Nat):Int)]=[((z.toUInt8.toNat:Nat):Int)];rw[show z.toUInt8.toNat=z%256 from rfl]
theorem bB6(hN:20<=N)(hn:I64 n):fT N n=some (aG (uvI n)):=by
 have hz:=aS2 hn;obtain⟨h1,h2⟩:=hn;have w:∀x:Int,δ .u64 x=x%18446744073709551616:=fun x=>IntKind.wrap_u64 x;have fin:∀x:Int,x=((zigzag n:Nat):Int)->kH N x []=some (aG (uvI n)):=fun x hx=>by subst hx;rw[aKy 9 (zigzag n) N [] (by have:128^(9+1)=1180591620717411303424:=rfl;omega) hz (by omega) (by simp),cg];rfl
 unfold fT;by_cases h:n<0
 ·rw[aF (decide_eq_true h),aM (by omega) (by omega),aB];refine fin _ ?_;rw[w,w,w];unfold zigzag;rw[if_neg (by omega)];omega
 ·rw[aE (decide_eq_false h),aB];refine fin _ ?_;rw[w,w];unfold zigzag;rw[if_pos (by omega)];omega
theorem bFq(N m:Nat):mL N (m+1)=nE N (mL N m):=rfl
theorem aH7{N:Nat}(hN:20<=N)(l:List Int)(h:∀x∈l,I64 x)(hl:l.length<=100000):∀(k i m:Nat) (acc:List Int),i+k=l.length->k<m->acc.length<=10+10*i->mL N m l (i:Int) acc=some (acc++aG ((l.drop i).flatMap uvI))
 |k,i,0,acc,_,h,_=>by omega
 |0,i,m+1,acc,hi,_,_=>by
  rw[bFq];unfold nE;rw[aE (decide_eq_false (by omega)),aD,cm (by omega)];exact congrArg some (χ acc).symm
 |k+1,i,m+1,acc,hi,hm,ha=>by
  have hlt:i<l.length:=by omega
  have hx:=h _ (da hlt);have hu:=cM hx;rw[bFq];unfold nE;rw[aF (decide_eq_true (by omega)),bJ (ε hlt),bB6 hN hx,aB,aD,aD,aC (by rw[aP];omega),aM (by omega) (by omega),aD,show((i:Int)+1)=((i+1:Nat):Int) by omega,aH7 hN l h hl k (i+1) m _ (by omega) (by omega) (by rw[κ,aP];omega),gP hlt,cf,gX,υ]
theorem aA1(hN:20<=N)(l:List Int)(h:∀x∈l,I64 x)(hl:l.length<N)(hb:l.length<=100000):cE N l=some (cS l):=by unfold cE vG;rw[bB6 hN (dK (by omega)),aB,aD];have hu:=cM (dK (show l.length<=1000000 by omega));have:=aH7 hN l h hb l.length 0 N (aG (uvI (l.length:Int))) (by omega) hl (by rw[aP];omega);rw[show(((0:Nat):Int))=0 from rfl]at this;rw[this,aB,aD,cc,<-gX,cR];rfl
theorem yE(hN:20<=N)(h:I64 n):cN N n=some (uvI n):=by unfold cN;rw[bB6 hN h,aB,aD,cR]
theorem bCc(hN:20<=N)(s:Str)(hs:s.length<=1000000):kG N s=some (aG (fR s)):=by unfold kG;have hu:=cM (dK hs);rw[bB6 hN (dK hs),aB,aD,aC (by rw[aP,aP];omega),aD,<-gX];rfl
theorem bGj(N m:Nat):iB N (m+1)=iN N (iB N m):=rfl
theorem aId{N:Nat}(hN:20<=N)(l:List Str)(h:∀x∈l,x.length<=100000)(hl:l.length<=100000):∀(k i m:Nat) (acc:List Int),i+k=l.length->k<m->acc.length<=10+200000*i->iB N m l (i:Int) acc=some (acc++aG ((l.drop i).flatMap fR))
 |k,i,0,acc,_,h,_=>by omega
 |0,i,m+1,acc,hi,_,_=>by
  rw[bGj];unfold iN;rw[aE (decide_eq_false (by omega)),aD,cm (by omega)];exact congrArg some (χ acc).symm
 |k+1,i,m+1,acc,hi,hm,ha=>by
  have hlt:i<l.length:=by omega
  have hx:=h _ (da hlt);have hu:(fR l[i]).length<=200000:=by unfold fR;have:=(cM (dK (show(l[i]).length<=1000000 by omega))).2;rw[κ];omega
  rw[bGj];unfold iN;rw[aF (decide_eq_true (by omega)),bJ (ε hlt),bCc hN _ (by omega),aB,aD,aD,aC (by rw[aP];omega),aM (by omega) (by omega),aD,show((i:Int)+1)=((i+1:Nat):Int) by omega,aId hN l h hl k (i+1) m _ (by omega) (by omega) (by rw[κ,aP];omega),gP hlt,cf,gX,υ]
theorem aRa(hN:20<=N)(l:List Str)(h:∀x∈l,x.length<=100000)(hl:l.length<N)(hb:l.length<=100000):gO N l=some (aG (sL l)):=by unfold gO;rw[bB6 hN (dK (by omega)),aB,aD];have hu:=cM (dK (show l.length<=1000000 by omega));have:=aId hN l h hb l.length 0 N (aG (uvI (l.length:Int))) (by omega) hl (by rw[aP];omega);rw[show(((0:Nat):Int))=0 from rfl]at this;rw[this,cc,<-gX];rfl
theorem aZn(hN:20<=N){r:Rd}(h:okR r):gU N r=some (aTr r):=by unfold gU;rw[show[1,r.1,r.2.1,r.2.2.1,r.2.2.2.1,r.2.2.2.2.1,r.2.2.2.2.2]=rl r from rfl,aA1 hN _ h (by show 7<N;omega) (by show 7<=_;omega),aB];rfl
theorem bK5(N:Nat)(b:Bool):vH N b=some (sgb b):=by cases b<;>rfl
theorem bK1(N m:Nat):iG N (m+1)=iP N (iG N m):=rfl
theorem aKe{N:Nat}(hN:20<=N)(v:Vr)(hv:okV v)(hl:4*(vp v).length<N):∀(k i m:Nat),i+k=(vp v).length->k<m->iG N m (i:Int) v.1 v.2.1 v.2.2.1 v.2.2.2.1 v.2.2.2.2.1 v.2.2.2.2.2.1 v.2.2.2.2.2.2.1 (vp v) (((vp v).take i).flatMap prt)=some (vU v)
 |k,i,0,_,h=>by omega
 |0,i,m+1,hi,_=>by
  obtain⟨h1,h2,h3⟩:=hv;rw[bK1];unfold iP;rw[aE (decide_eq_false (by omega)),bc (by omega)];have e:=aA1 hN (vl v) h1 (by show 8<N;omega) (by show 8<=_;omega);show bd? (cE N (vl v)) _=_;have hs:=aSm h3;rw[e,aB,aD,aRa hN _ (fun x hx=>by have:=hs x hx;omega) (by rw[oA];omega) (by rw[oA];omega),aB,aD,cR];refine aC ?_;have a1:=aFu h1 (by show 8<=_;omega);have a2:=aTy (by omega) hs (by rw[oA];omega);have h9:(vl v).length=8:=rfl;rw[oA]at a2;have a3:(50000+10)*(4*(vp v).length)<=50010*4000:=Nat.mul_le_mul_left _ (by omega);omega
 |k+1,i,m+1,hi,hm=>by
  have hlt:i<(vp v).length:=by omega
  obtain⟨h1,h2,h3⟩:=hv;obtain⟨g1,g2,g3⟩:=h3 _ (da hlt);have hlen:(((vp v).take i).flatMap prt).length<=4000:=by rw[oA,bu];omega
  have ih:=aKe hN v ⟨h1,h2,h3⟩ hl k (i+1) m (by omega) (by omega);rw[aDa _ _ hlt,List.flatMap_append]at ih;have e:([(vp v)[i]]:List Pt).flatMap prt=[uvI (vp v)[i].1,uvI (sgb (vp v)[i].2.1),(vp v)[i].2.2.1,(vp v)[i].2.2.2]:=by rw[cf,List.flatMap_nil,χ];rfl
  rw[e]at ih;rw[bK1];unfold iP;rw[aF (decide_eq_true (by omega)),bJ (ε hlt),yE hN g1,aB,bK5,aB,yE hN (aRz _),aB,aD,aC (by simp only[ξ,au];omega),aM (by omega) (by omega),aD];exact ih
theorem bB4(hN:20<=N)(h:okV v)(hl:4*(vp v).length<N):lF N v=some (vU v):=by unfold lF;exact aKe hN v h hl (vp v).length 0 N (by omega) (by omega)
def vlo(s:Str):Nat->Nat
 |0=>0
 |k+1=>vlo s k+(s.getD k 0).toNat%128*128^k
theorem bBz(s:Str):∀k,vlo s k<128^k
 |0=>by show 0<1;decide
 |k+1=>by have h:=bBz s k;have h1:(s.getD k 0).toNat%128*128^k<=127*128^k:=cu _ (by omega);show vlo s k+_<128^k*128;omega
def bK0(k y:Nat):Option TG:=some (unz y,(((k+1:Nat):Int),0))
theorem bHe(m:Nat):fL (m+1)=jI (fL m):=rfl
theorem bDl(s:Str)(h:i<s.length):(aG s)[i]?=some (((s.getD i 0).toNat:Nat):Int):=by rw[aDn,ε h,ba,ε h];rfl
theorem bG1(s:Str)(K:Nat)(hK:K<s.length)(hK9:K<=9):∀(i m acc:Nat),i<=K+1->i<m->acc*128^i+vlo s i<18446744073709551616->
  fL m (aG s) (K:Int) (acc:Int) ((i:Int)-1)=bK0 K (acc*128^i+vlo s i)
 |_,0,_,_,h,_=>absurd h (Nat.not_lt_zero _)
 |0,m+1,acc,_,_,hb=>by
  have hb:acc<18446744073709551616:=by
   have:acc*128^0+vlo s 0=acc:=by rw[Nat.pow_zero,cz];rfl
   omega
  rw[bHe];unfold jI;have e0:bo (acc:Int) 2=((acc%2:Nat):Int):=by rw[show(2:Int)=((2:Nat):Int)from rfl,<-fm]
  have e1:δ .u64 (dk (acc:Int) 2)=((acc/2:Nat):Int):=by rw[show(2:Int)=((2:Nat):Int)from rfl,<-jz,q64 (by omega) (by omega)]
  have e2:δ .i64 ((acc/2:Nat):Int)=((acc/2:Nat):Int):=vE (by omega) (by omega);rw[aE (decide_eq_false (by omega)),e0,e1,e2];have e3:acc*128^0+vlo s 0=acc:=by rw[Nat.pow_zero,cz];rfl
  rw[e3];unfold bK0 unz;by_cases h:acc%2=1
  ·rw[aF (by rw[h];rfl),aM (by omega) (by omega),aM (by omega) (by omega),if_neg (by omega),show(-1:Int)-((acc/2:Nat):Int)=-((acc/2:Nat):Int)-1 by omega,show(K:Int)+1=((K+1:Nat):Int) by omega]
  ·have h0:acc%2=0:=by omega
   rw[aE (by rw[h0];rfl),aM (by omega) (by omega),if_pos h0,show(K:Int)+1=((K+1:Nat):Int) by omega]
 |i+1,m+1,acc,hi,hm,hb=>by
  have hlt:i<s.length:=by omega
  have hg:=bDl s hlt;have hc:=(s.getD i 0).toNat_lt;have e:acc*128^(i+1)+vlo s (i+1)=(acc*128+(s.getD i 0).toNat%128)*128^i+vlo s i:=by show acc*(128^i*128)+(vlo s i+(s.getD i 0).toNat%128*128^i)=_;rw[cn,Nat.mul_assoc acc 128,Nat.mul_comm 128 (128^i)];omega
  rw[e]at hb|-;generalize(s.getD i 0).toNat=c at*;have p1:0<128^i:=Nat.pow_pos (by decide);have hle:acc*128+c%128<=(acc*128+c%128)*128^i:=Nat.le_mul_of_pos_right _ p1;rw[bHe];unfold jI;have e0:bo (c:Int) 128=((c%128:Nat):Int):=by rw[show(128:Int)=((128:Nat):Int)from rfl,<-fm]
  rw[show((i+1:Nat):Int)-1=(i:Int) by omega,aF (decide_eq_true (by omega)),bJ hg,aM (by omega) (by omega),e0,q64 (x:=((c%128:Nat):Int)) (by omega) (by omega),show(acc:Int)*128=((acc*128:Nat):Int) by omega,q64 (x:=((acc*128:Nat):Int)) (by omega) (by omega),show((acc*128:Nat):Int)+((c%128:Nat):Int)=((acc*128+c%128:Nat):Int) by omega,q64 (by omega) (by omega)];exact bG1 s K hK hK9 i m _ (by omega) (by omega) hb
theorem bCj(N m:Nat):jZ N (m+1)=fO N (jZ N m):=rfl
theorem bGg{N:Nat}(hN:20<=N)(s:Str):∀(r:Str) (k m:Nat),s.drop k=r->k<=s.length->k<=9->10<m+k->jZ N m (aG s) (k:Int)=some (giN k (vlo s k) r)
 |_,_,0,_,_,_,h=>by omega
 |[],k,m+1,hr,hks,hk,hm=>by
  have:s.length<=k:=by have:=congrArg List.length hr;rw[aq,au]at this;omega
  rw[bCj];unfold fO;rw[aP,aE (decide_eq_false (by omega)),aB];dsimp only;rw[aK,aE (by rw[beq_eq_false_iff_ne];omega),aP];rw[aF (by rw[beq_iff_eq];omega)];rfl
 |c::r,k,m+1,hr,_,hk,hm=>by
  have hlen:k<s.length:=by have:=congrArg List.length hr;rw[aq,ξ]at this;omega
  have hc:s[k]=c:=by have:=congrArg (·[0]?) hr;simp only[dv,Nat.add_zero,fh]at this;rw[ε hlen]at this;exact Option.some.inj this
  have hcD:s.getD k 0=c:=by rw[ba,ε hlen,hc];rfl
  have hr':s.drop (k+1)=r:=by have:=congrArg List.tail hr;rw[List.tail_drop]at this;exact this
  have hcl:=c.toNat_lt;have hget:(aG s)[k]?=some (c.toNat:Int):=by rw[aDn,ε hlen,hc];rfl
  have hv:vlo s (k+1)=vlo s k+c.toNat%128*128^k:=by show vlo s k+(s.getD k 0).toNat%128*128^k=_;rw[hcD]
  rw[bCj,giN];unfold fO;rw[aP,aF (decide_eq_true (by omega)),aF (decide_eq_true (by omega)),bJ hget,aB];dsimp only;by_cases h128:c.toNat<128
  ·
   rw[aE (decide_eq_false (by omega)),aE (by rw[beq_eq_false_iff_ne];omega),aP,aE (by rw[beq_eq_false_iff_ne];omega)];have fin:∀x:Bool,x=decide ((k=9/\1<c.toNat)\/(0<k/\c.toNat=0))->(bd? (some (aG s,(k:Int),x)) fun w10=>if? (w10.2.2) (some (((0:Int),((0:Int),(11:Int))))) (fL N w10.1 w10.2.1 0 w10.2.1))=some (if(k=9/\1<c.toNat)\/(0<k/\c.toNat=0)then(0,0,11)else if c.toNat<128 then(unz (vlo s k+c.toNat%128*128^k),((k+1:Nat):Int),0)else giN (k+1) (vlo s k+c.toNat%128*128^k) r):=by
    intro x hx;subst hx;rw[aB];dsimp only;by_cases hb:(k=9/\1<c.toNat)\/(0<k/\c.toNat=0)
    ·rw[aF (decide_eq_true hb),if_pos hb]
    ·rw[aE (decide_eq_false hb),if_neg hb,if_pos h128];have hbd:=(aP6 (vlo s k) k c.toNat (bBz s k) hk (by omega) (by omega)).2.1;have:=bG1 s k hlen hk (k+1) N 0 (ω _) (by omega) (by rw[Nat.zero_mul,bf,hv];exact hbd);rw[show((k+1:Nat):Int)-1=(k:Int) by omega,Nat.zero_mul,bf,hv]at this;exact this
   by_cases h9:k=9
   ·rw[aF (by rw[beq_iff_eq];omega),bJ hget];by_cases h1:1<c.toNat
    ·rw[aF (decide_eq_true (by omega))];exact fin _ (decide_eq_true (.inl ⟨h9,h1⟩)).symm
    ·rw[aE (decide_eq_false (by omega)),aF (decide_eq_true (by omega)),bJ hget];refine fin _ ?_;rw[ef,beq_iff_eq,decide_eq_true_eq];omega
   ·rw[aE (by rw[beq_eq_false_iff_ne];omega)];by_cases h0:0<k
    ·rw[aF (decide_eq_true (by omega)),bJ hget];refine fin _ ?_;rw[ef,beq_iff_eq,decide_eq_true_eq];omega
    ·rw[aE (decide_eq_false (by omega))];refine fin _ ?_;rw[ef,decide_eq_true_eq];constructor
     ·intro h;cases h
     ·intro h;omega
  ·rw[aF (decide_eq_true (by omega)),aM (by omega) (by omega),show(k:Int)+1=((k+1:Nat):Int) by omega];by_cases h9:k=9
   ·subst h9;rw[if_pos (.inl ⟨rfl,by omega⟩)];obtain⟨m,rfl⟩:∃m',m=m'+1:=⟨m-1,by omega⟩;rw[bCj];unfold fO;by_cases hl:10<s.length
    ·rw[aP,aF (decide_eq_true (by omega)),aE (by rfl),aB];rfl
    ·rw[aP,aE (decide_eq_false (by omega)),aB];rfl
   ·rw[if_neg (by omega),if_neg h128,bGg hN s r (k+1) m hr' (by omega) (by omega) (by omega),hv]
theorem aFl(hN:20<=N)(s:Str):dY N (aG s)=some (gi s):=by unfold dY;exact bGg hN s s 0 N rfl (by omega) (by omega) (by omega)
theorem aIm(hN:20<=N)(s:Str)(hs:s.length<=1000000):jE N (aG s) 1=some (bM s):=by
 unfold jE bM;rw[aFl hN,aB,aP];rcases yZ s with⟨e,u,h1,h2,h3,h4,h5⟩|⟨h1,h2,h3⟩
 ·obtain⟨b1,b2⟩:=h5;rw[jT e,aK,if_neg (by rw[e];simp),h1,Int.tdiv_one];by_cases hn:(gi s).1<0
  ·rw[aF (decide_eq_true hn),if_pos hn]
  ·rw[aE (decide_eq_false hn),if_neg hn,aM (by omega) (by omega),aC (by decide),aM (by omega) (by omega)];by_cases hg:(gi s).1>(s.length:Int)-(u:Int)
   ·rw[aF (decide_eq_true hg),if_pos hg]
   ·rw[aE (decide_eq_false hg),if_neg hg]
 ·have hne:(gi s).2.2≠0:=by omega
  rw[mV hne,aN,if_pos hne]
theorem aXz(N m:Nat):iU N (m+1)=iE N (iU N m):=rfl
theorem aEg{N:Nat}(hN:20<=N)(s:Str)(v:Nat)(hs:s.length<=1000000):∀(n a b m:Nat) (acc:List Int),v=b+n->a<=s.length->b+n<=1000000->acc.length=b->n<m->
  iU N m (aG s) (v:Int) (a:Int) (b:Int) acc=some (swp (lT n (s.drop a) (a:Int) acc))
 |n,a,b,0,acc,_,_,_,_,h=>by omega
 |0,a,b,m+1,acc,hv,ha,hb,hacc,_=>by
  rw[aXz];unfold iE;rw[aE (decide_eq_false (by omega)),aD];rfl
 |n+1,a,b,m+1,acc,hv,ha,hb,hacc,hm=>by
  rw[aXz];unfold iE;rw[aF (decide_eq_true (by omega)),aC (by omega),π,aC (by rw[aP];exact ha),aC (ω _),xQ,aFl hN,aB,lT];rcases yZ (s.drop a)with⟨e,u,h1,h2,h3,h4,h5⟩|⟨h1,h2,h3⟩
  ·rw[aq]at h3;rw[jT e,aK,if_neg (by rw[e];simp),aD,aC (by simp only[ξ,au];omega),h1,aM (by omega) (by omega),aM (by omega) (by omega),aD,show((a:Int)+(u:Int))=((a+u:Nat):Int) by omega,show((b:Int)+1)=((b+1:Nat):Int) by omega,
    aEg hN s v hs n (a+u) (b+1) m _ (by omega) (by omega) (by omega) (by simp[hacc]) (by omega),π,dh]
  ·have hne:(gi (s.drop a)).2.2≠0:=by omega
   rw[mV hne,aN,if_pos hne];rfl
theorem aA0(s:Str)(hN:20<=N)(hs:s.length<N)(hb:s.length<=1000000):dO N (aG s)=some (swp (aH s)):=by
 unfold dO aH;rw[aIm hN s hb,aB];rcases nH s with⟨e,n,u,h1,h2,h3⟩|⟨h1,h2,h3⟩
 ·rw[jT e,aK,if_neg (by rw[e];simp)];have e1:(bM s).1=(n:Int):=by rw[h1]
  have e2:(bM s).2.1=(u:Int):=by rw[h1]
  rw[e2,e1];have:=aEg hN s n hb n u 0 N [] (by omega) (by omega) (by omega) rfl (by omega);rw[show(((0:Nat):Int))=0 from rfl]at this;rw[this,π,π]
  try rfl
 ·have hne:(bM s).2.2≠0:=by omega
  rw[mV hne,aN,if_pos hne]
  try rfl
theorem aXj(s:Str)(hN:20<=N)(hb:s.length<=1000000):jY N (aG s)=some (bN s):=by
 unfold jY;rw[aFl hN,aB,aP];rcases yZ s with⟨e,u,h1,h2,h3,h4,h5⟩|⟨h1,h2,h3⟩
 ·obtain⟨b1,b2⟩:=h5;rw[jT e,aK,h1];by_cases hn:(gi s).1<0
  ·have hl:bM s=(0,0,11):=by unfold bM;rw[if_neg (by rw[e];simp),if_pos hn]
   rw[aF (decide_eq_true hn),bN,hl];rfl
  ·rw[aE (decide_eq_false hn),aM (by omega) (by omega)];by_cases hg:(gi s).1>(s.length:Int)-(u:Int)
   ·have hl:bM s=(0,0,10):=by unfold bM;rw[if_neg (by rw[e];simp),if_neg hn,h1,if_pos hg]
    rw[aF (decide_eq_true hg),bN,hl];rfl
   ·have hl:bM s=((gi s).1,(u:Int),0):=by unfold bM;rw[if_neg (by rw[e];simp),if_neg hn,h1,if_neg hg]
    rw[aE (decide_eq_false hg),aM (by omega) (by omega),aC (by omega),aC (by omega),aC (by omega),aC (by omega),aM (by omega) (by omega),π,show((u:Int)+(gi s).1).toNat-u=(gi s).1.toNat by omega,<-aAo,<-aGb,cR,bN,hl];rfl
 ·have hne:(gi s).2.2≠0:=by omega
  have hl:bM s=(0,0,(gi s).2.2):=by unfold bM;rw[if_pos hne]
  rw[mV hne,aN,bN,hl,if_pos (by exact hne)]
theorem aX5(N m:Nat):eS N (m+1)=eL N (eS N m):=rfl
theorem aD7{N:Nat}(hN:20<=N)(s:Str)(v:Nat)(hs:s.length<=1000000):∀(n a b m:Nat) (acc:List Str),v=b+n->a<=s.length->b+n<=1000000->acc.length=b->n<m->
  eS N m (aG s) (v:Int) (a:Int) (b:Int) acc=some (swp (lV n (s.drop a) (a:Int) acc))
 |n,a,b,0,acc,_,_,_,_,h=>by omega
 |0,a,b,m+1,acc,hv,ha,hb,hacc,_=>by
  rw[aX5];unfold eL;rw[aE (decide_eq_false (by omega)),aD];rfl
 |n+1,a,b,m+1,acc,hv,ha,hb,hacc,hm=>by
  rw[aX5];unfold eL;rw[aF (decide_eq_true (by omega)),aC (by omega),π,aC (by rw[aP];exact ha),aC (ω _),xQ,aXj _ hN (by rw[aq];omega),aB,lV];rcases aDq (s.drop a)with⟨e,u,h1,h2,h3,h4⟩|⟨h1,h2,h3⟩
  ·rw[aq]at h3;rw[jT e,aK,if_neg (by rw[e];simp),aD,aC (by simp only[ξ,au];omega),h1,aM (by omega) (by omega),aM (by omega) (by omega),aD,show((a:Int)+(u:Int))=((a+u:Nat):Int) by omega,show((b:Int)+1)=((b+1:Nat):Int) by omega,
    aD7 hN s v hs n (a+u) (b+1) m _ (by omega) (by omega) (by omega) (by simp[hacc]) (by omega),π,dh]
  ·have hne:(bN (s.drop a)).2.2≠0:=by omega
   rw[mV hne,aN,if_pos hne];rfl
theorem aEj(s:Str)(hN:20<=N)(hs:s.length<N)(hb:s.length<=1000000):eA N (aG s)=some (swp (dH s)):=by
 unfold eA dH;rw[aIm hN s hb,aB];rcases nH s with⟨e,n,u,h1,h2,h3⟩|⟨h1,h2,h3⟩
 ·rw[jT e,aK,if_neg (by rw[e];simp)];have e1:(bM s).1=(n:Int):=by rw[h1]
  have e2:(bM s).2.1=(u:Int):=by rw[h1]
  rw[e2,e1];have:=aD7 hN s n hb n u 0 N [] (by omega) (by omega) (by omega) rfl (by omega);rw[show(((0:Nat):Int))=0 from rfl]at this;rw[this,π,π]
  try rfl
 ·have hne:(bM s).2.2≠0:=by omega
  rw[mV hne,aN,if_pos hne]
  try rfl
def rz:Rd:=(0,(0,(0,(0,(0,0)))))
theorem aXx(h:(grd s).2≠0):grd s=(rz,11):=by
 rcases bL3 s with g|g
 ·exact absurd g h
 ·exact g
theorem xW(h:∀x∈l,I64 x)(hl:l.length<=1000000):aH (cS l)=(l,((cS l).length:Int),0):=by have:=qG h hl [];rwa[χ]at this
theorem bJ9{x y:Str}(h:x=y):(!(x==y))=false:=by subst h;simp
theorem aZ7{x y:Str}(h:x≠y):(!(x==y))=true:=by simp[h]
theorem aP7(s:Str)(hN:20<=N)(hs:s.length<N)(hb:s.length<=1000000):fX N s=some (grd s):=by
 unfold fX;rw[aA0 s hN hs hb,aB];unfold swp;dsimp only;rcases mS s with⟨e,u,h1,h2,h3,h4⟩|g
 ·rw[jT e,aK,aD,aB];by_cases hl:(aH s).1.length=7
  ·have h7:=bFw hl;have hI:=h4;generalize(aH s).1.getD 0 0=a0 at h7;generalize(aH s).1.getD 1 0=a1 at h7;generalize(aH s).1.getD 2 0=a2 at h7;generalize(aH s).1.getD 3 0=a3 at h7;generalize(aH s).1.getD 4 0=a4 at h7;generalize(aH s).1.getD 5 0=a5 at h7;generalize(aH s).1.getD 6 0=a6 at h7;rw[h7]at hI|-;have ok:okR (a1,(a2,(a3,(a4,(a5,a6))))):=fun x hx=>by
    rcases bw.1 hx with rfl|hx
    ·exact aVt.2
    ·exact hI x (bw.2 (.inr hx))
   show bd? (gU N (a1,(a2,(a3,(a4,(a5,a6)))))) (fun v10=>if? (!(v10==s)) (some (rz,11)) (some ((a1,(a2,(a3,(a4,(a5,a6))))),0)))=_;rw[aZn hN ok,aB];by_cases he:aTr (a1,(a2,(a3,(a4,(a5,a6)))))=s
   ·rw[bJ9 he,aK,<-he,bEz ok]
   ·rw[aZ7 he,aN,aXx];intro h0;obtain⟨g1,g2⟩:=aNp h0;have e2:=xW (l:=rl (grd s).1) g2 (by show 7<=_;omega);have e3:aH s=aH (cS (rl (grd s).1)):=congrArg aH g1;rw[e2]at e3;have e4:(aH s).1=rl (grd s).1:=by rw[e3]
    rw[h7]at e4;apply he;rw[g1];unfold aTr;refine congrArg cS ?_;show 1::_=1::_;exact congrArg (fun t=>1::t) (congrArg List.tail e4)
  ·rw[mV (show((aH s).1.length:Int)≠7 by omega),aN,aXx]
   ·rfl
   ·intro h0;obtain⟨g1,g2⟩:=aNp h0;have e2:=xW (l:=rl (grd s).1) g2 (by show 7<=_;omega);have e3:aH s=aH (cS (rl (grd s).1)):=congrArg aH g1;rw[e2]at e3;apply hl;rw[e3];rfl
 ·rw[mV g,aN,aD,aB,aXx]
  ·rfl
  ·intro h0;obtain⟨g1,g2⟩:=aNp h0;have e2:=xW (l:=rl (grd s).1) g2 (by show 7<=_;omega);have e3:aH s=aH (cS (rl (grd s).1)):=congrArg aH g1;rw[e2]at e3;apply g;rw[e3]
theorem aS6{β:Type}{xs:List α}{x:α}{f:α->Option β}(h:xs[i]?=some x):gd? (0<=(i:Int)) (gd? ((i:Int)<((xs.length:Nat):Int)) (gn? xs (i:Int).toNat f))=f x:=by have hl:=(List.getElem?_eq_some_iff.1 h).1;rw[aC (by omega),aC (by omega),π,aPm h]
def pp:List Str->List Pt->Option (List Pt)
 |a::b::c::d::r,acc=>if(gi a).2.2=0 then pp r (acc++[((gi a).1,(b==uvI 1,(c,d)))])else none
 |_,acc=>some acc
def fl2(v:Vr×Int):Int×(Int×(Int×(Int×(Int×(Int×(Int×(Int×List Pt))))))):=(v.1.1,(v.1.2.1,(v.1.2.2.1,(v.1.2.2.2.1,(v.1.2.2.2.2.1,(v.1.2.2.2.2.2.1,(v.1.2.2.2.2.2.2.1,(v.2,v.1.2.2.2.2.2.2.2))))))))
def bHx(s:Str)(x1 x2 x3 x4 x5 x6 x7:Int):Option (List Pt)->Vr×Int
 |none=>(vz,11)
 |some q=>if vU (x1,(x2,(x3,(x4,(x5,(x6,(x7,q)))))))=s then((x1,(x2,(x3,(x4,(x5,(x6,(x7,q))))))),0)else(vz,11)
theorem bKx:uvI 0=[0]:=uvarint_small (x:=0) (by decide)
theorem bGk:uvI 1=[2]:=uvarint_small (x:=2) (by decide)
theorem bM9(b:Bool):(uvI (sgb b)==uvI 1)=b:=by
 cases b with
 |false=>show(uvI 0==uvI 1)=false;rw[bKx,bGk];rfl
 |true=>show(uvI 1==uvI 1)=true;rw[bGk];rfl
theorem aR3:∀(l acc:List Pt),okP l->pp (l.flatMap prt) acc=some (acc++l)
 |[],acc,_=>by rw[χ];rfl
 |p::l,acc,h=>by have hp:=(h p (by simp)).1;have e:=aNx hp [];rw[χ]at e;rw[cf];show pp (uvI p.1::uvI (sgb p.2.1)::p.2.2.1::p.2.2.2::l.flatMap prt) acc=_;rw[pp,e,if_pos rfl,bM9,aR3 l _ (fun q hq=>h q (by simp[hq])),υ];rfl
theorem bG2(N m:Nat):dI N (m+1)=eN N (dI N m):=rfl
theorem aP9{N:Nat}(hN:20<=N)(s:Str)(x1 x2 x3 x4 x5 x6 x7:Int)(hI:∀x∈[2,x1,x2,x3,x4,x5,x6,x7],I64 x)(L:List Str)(hLN:L.length<N)(hL:L.length<=4000)(hp:∀x∈L,x.length<=50000):∀(k j m:Nat) (acc:List Pt),L.length=4*(j+k)->k<m->acc.length=j->okP acc->
  dI N m s ((4*j:Nat):Int) 0 0 0 0 0 0 0 0 0 0 0 0 0 0 0 11 L x1 x2 x3 x4 x5 x6 x7 [] [] acc=some (fl2 (bHx s x1 x2 x3 x4 x5 x6 x7 (pp (L.drop (4*j)) acc)))
 |k,j,0,_,_,h,_,_=>by omega
 |0,j,m+1,acc,hj,_,ha,hok=>by
  rw[bG2];unfold eN;rw[aE (decide_eq_false (by omega)),aD,cm (by omega)];have ok:okV (x1,(x2,(x3,(x4,(x5,(x6,(x7,acc))))))):=⟨hI,by show acc.length<=_;omega,hok⟩;rw[bB4 hN ok (by show 4*acc.length<N;omega),aB];show _=some (fl2 (if vU (x1,(x2,(x3,(x4,(x5,(x6,(x7,acc)))))))=s then((x1,(x2,(x3,(x4,(x5,(x6,(x7,acc))))))),0)else(vz,11)));by_cases he:vU (x1,(x2,(x3,(x4,(x5,(x6,(x7,acc)))))))=s
  ·rw[bJ9 he,aK,aD,if_pos he];rfl
  ·rw[aZ7 he,aN,aD,if_neg he];rfl
 |k+1,j,m+1,acc,hj,hm,ha,hok=>by
  have l0:4*j<L.length:=by omega
  have l1:4*j+1<L.length:=by omega
  have l2:4*j+2<L.length:=by omega
  have l3:4*j+3<L.length:=by omega
  have ed:L.drop (4*j)=L[4*j]::L[4*j+1]::L[4*j+2]::L[4*j+3]::L.drop (4*(j+1)):=by rw[gb l0,gb l1,gb l2,gb l3];rfl
  have hc:=hp _ (da l2);have hd:=hp _ (da l3);rw[bG2];unfold eN;rw[ed,pp,aF (decide_eq_true (by omega)),aS6 (ε l0),aFl hN,aB];rcases yZ L[4*j]with⟨e,u,h1,h2,h3,h4,h5⟩|⟨h1,h2,h3⟩
  ·rw[jT e,aK,if_pos e,aM (by omega) (by omega),show((4*j:Nat):Int)+1=((4*j+1:Nat):Int) by omega,aS6 (ε l1),yE hN aVt.2,aB,aM (by omega) (by omega),show((4*j:Nat):Int)+2=((4*j+2:Nat):Int) by omega,aS6 (ε l2),aM (by omega) (by omega),show((4*j:Nat):Int)+3=((4*j+3:Nat):Int) by omega,aS6 (ε l3),aD,aC (by simp only[ξ,au];omega),aM (by omega) (by omega),show((4*j:Nat):Int)+4=((4*(j+1):Nat):Int) by omega,aD,aD,aD,aD];refine aP9 hN s x1 x2 x3 x4 x5 x6 x7 hI L hLN hL hp k (j+1) m _ (by omega) (by omega) (by simp only[κ,ξ,au];omega) fun p hp=>?_;rcases dn.1 hp with hp|hp
   ·exact hok p hp
   ·rw[bk.1 hp];exact⟨h5,hc,hd⟩
  ·have hne:(gi L[4*j]).2.2≠0:=by omega
   rw[mV hne,aN,if_neg hne,aD];rfl
theorem bFv:∀(k:Nat) (L:List Str) (acc q:List Pt),L.length=4*k->okP acc->(∀x∈L,x.length<=50000)->pp L acc=some q->okP q/\q.length=acc.length+k
 |0,L,acc,q,hl,ha,_,h=>by
  have:L=[]:=fw.1 (by omega);subst this;cases h;exact⟨ha,rfl⟩
 |k+1,L,acc,q,hl,ha,hp,h=>by
  obtain⟨a,b,c,d,r,rfl⟩:∃a b c d r,L=a::b::c::d::r:=by
   match L,hl with
   |a::b::c::d::r,_=>exact⟨a,b,c,d,r,rfl⟩
   |[],h=>simp at h
   |[_],h=>simp at h;omega
   |[_,_],h=>simp at h;omega
   |[_,_,_],h=>simp at h;omega
  rw[pp]at h;rcases yZ a with⟨e,u,h1,h2,h3,h4,h5⟩|⟨h1,h2,h3⟩
  ·rw[if_pos e]at h;have:=bFv k r _ q (by simp only[ξ]at hl;omega) (fun p hq=>by
    rcases dn.1 hq with hq|hq
    ·exact ha p hq
    ·rw[bk.1 hq];exact⟨h5,hp c (by simp),hp d (by simp)⟩) (fun x hx=>hp x (by simp[hx])) h
   refine⟨this.1,?_⟩;rw[this.2];simp only[κ,ξ,au];omega
  ·rw[if_neg (by omega)]at h;cases h
theorem bKt(h:(gvr s).2≠0):gvr s=(vz,11):=by
 rcases bL2 s with g|g
 ·exact absurd g h
 ·exact g
theorem gV(ok:okV v):aH (vU v)=(vl v,((cS (vl v)).length:Int),0)/\(dH ((vU v).drop (cS (vl v)).length)).1=(vp v).flatMap prt/\(dH ((vU v).drop (cS (vl v)).length)).2.2=0:=by obtain⟨h1,h2,h3⟩:=ok;have hs:=aSm h3;have e:=aDu (l:=(vp v).flatMap prt) (fun x hx=>by have:=hs x hx;omega) (by rw[oA];omega) [];rw[χ]at e;refine⟨qG h1 (by show 8<=_;omega) _,?_⟩;unfold vU;rw[nQ,e];exact⟨rfl,rfl⟩
theorem aRm(s:Str)(hN:20<=N)(hs:s.length<N)(hb:s.length<=4000):gF N s=some (fl2 (gvr s)):=by
 have neg:∀P:Prop,(∀v,okV v->s=vU v->gvr s=(v,0)->¬P)->P->gvr s=(vz,11):=fun P h hP=>bKt fun h0=>by obtain⟨g1,g2⟩:=bDc hb h0;exact h _ g2 g1 (by rw[<-h0]) hP
 unfold gF;rw[aA0 s hN hs (by omega),aB];unfold swp;dsimp only;rcases mS s with⟨e,u,h1,h2,h3,h4⟩|g
 ·rw[jT e,aK,aD,aB];dsimp only;by_cases hl:(aH s).1.length=8
  ·rw[jT (show((aH s).1.length:Int)=8 by omega),aK,h1,aC (by omega),π,aC h2,aC (ω _),aHr,aEj _ hN (by rw[aq];omega) (by rw[aq];omega),aB];unfold swp;dsimp only;rcases aBq (s.drop u)with⟨e',u',g1,g2,g3,g4⟩|g
   ·rw[aq]at g3;rw[jT e',aK,aD,aD,aD,aD,aB];dsimp only;have e4:bo ((dH (s.drop u)).1.length:Int) 4=(((dH (s.drop u)).1.length%4:Nat):Int):=by rw[show(4:Int)=((4:Nat):Int)from rfl,<-fm]
    have hV:∀v,okV v->s=vU v->aH s=(vl v,(u:Int),0)/\(dH (s.drop u)).1=(vp v).flatMap prt:=fun v ok hv=>by
     obtain⟨i1,i2,i3⟩:=gV ok;rw[<-hv]at i1 i2;have hu:u=(cS (vl v)).length:=by rw[i1]at h1;exact(Int.ofNat.inj h1).symm
     rw[<-hu]at i1 i2;exact⟨i1,i2⟩
    by_cases h4':(dH (s.drop u)).1.length%4=0
    ·rw[e4,h4',jT (show((0:Nat):Int)=0 from rfl),aK];have h8:=bG4 hl;have hI:=h4;have h0:(aH s).1.getD 0 0=(aH s).1.getD 0 0:=rfl;generalize hG:(dH (s.drop u)).1=L at*;rw[h8]at hI|-;have hVL:∀v,okV v->s=vU v->(aH s).1=vl v:=fun v ok hv=>by rw[(hV v ok hv).1]
     rw[h8]at hVL;generalize(aH s).1.getD 0 0=a0 at*;generalize(aH s).1.getD 1 0=a1 at*;generalize(aH s).1.getD 2 0=a2 at*;generalize(aH s).1.getD 3 0=a3 at*;generalize(aH s).1.getD 4 0=a4 at*;generalize(aH s).1.getD 5 0=a5 at*;generalize(aH s).1.getD 6 0=a6 at*;generalize(aH s).1.getD 7 0=a7 at*;show gl? L.length L (dI N N s ((4*0:Nat):Int) 0 0 0 0 0 0 0 0 0 0 0 0 0 0 0 11 L a1 a2 a3 a4 a5 a6 a7 [] [] [])=_;rw[aD];have hI':∀x∈[2,a1,a2,a3,a4,a5,a6,a7],I64 x:=fun x hx=>by
      rcases bw.1 hx with rfl|hx
      ·exact⟨by decide,by decide⟩
      ·exact hI x (bw.2 (.inr hx))
     have hp:∀x∈L,x.length<=50000:=fun x hx=>by have:=g4 x hx;rw[aq]at this;omega
     rw[aP9 hN s a1 a2 a3 a4 a5 a6 a7 hI' L (by omega) (by omega) hp (L.length/4) 0 N [] (by omega) (by omega) rfl (fun p hp=>(dm hp).elim)];show some (fl2 (bHx s a1 a2 a3 a4 a5 a6 a7 (pp L [])))=_;refine congrArg (fun x=>some (fl2 x)) ?_;cases hq:pp L []with
     |none=>
      refine(neg True (fun v ok hv _ _=>?_) trivial).symm;have:=(hV v ok hv).2;rw[this,aR3 _ _ ok.2.2]at hq;cases hq
     |some q=>
      obtain⟨q1,q2⟩:=bFv (L.length/4) L [] q (by omega) (fun p hp=>(dm hp).elim) hp hq;have ok:okV (a1,(a2,(a3,(a4,(a5,(a6,(a7,q))))))):=⟨hI',by show q.length<=_;rw[q2,au];omega,q1⟩;unfold bHx;dsimp only;by_cases he:vU (a1,(a2,(a3,(a4,(a5,(a6,(a7,q)))))))=s
      ·rw[if_pos he,<-he,bCs ok]
      ·rw[if_neg he];refine(neg True (fun v okv hv _ _=>he ?_) trivial).symm;have e1:=hVL v okv hv;have e2:=(hV v okv hv).2;rw[e2,aR3 _ _ okv.2.2,cg]at hq;have e3:=Option.some.inj hq;rw[hv];have e5:vl (a1,(a2,(a3,(a4,(a5,(a6,(a7,q)))))))=vl v:=by show 2::_=2::_;exact congrArg (fun t=>2::t) (congrArg List.tail e1)
       unfold vU;rw[e5,<-e3]
    ·rw[e4,mV (show((((dH (s.drop u)).1.length%4:Nat):Int)≠0) by omega),aN,aD,neg ((dH (s.drop u)).1.length%4≠0) (fun v ok hv _ h=>h (by rw[(hV v ok hv).2,oA];omega)) h4'];rfl
   ·rw[mV g,aN,aD,aD,aD,aD,aB];dsimp only;rw[aN,aD,neg ((dH (s.drop u)).2.2≠0) (fun v ok hv _ h=>h (by
     obtain⟨i1,i2,i3⟩:=gV ok;rw[<-hv]at i1 i3;have hu:u=(cS (vl v)).length:=by rw[i1]at h1;exact(Int.ofNat.inj h1).symm
     rw[hu];exact i3)) g]
    rfl
  ·rw[mV (show((aH s).1.length:Int)≠8 by omega),aN,aD,neg ((aH s).1.length≠8) (fun v ok hv _ h=>h (by rw[hv,(gV ok).1];rfl)) hl];rfl
 ·rw[mV g,aN,aD,aB];dsimp only;rw[aN,aD,neg ((aH s).2.2≠0) (fun v ok hv _ h=>h (by rw[hv,(gV ok).1])) g];rfl
theorem bGu(N:Nat)(r)(m:Nat):nL N r (m+1)=mZ N r (nL N r m):=rfl
theorem bF0(N m:Nat):mQ N (m+1)=nB N (mQ N m):=rfl
theorem bF5(N:Nat)(r)(m:Nat):kV N r (m+1)=kO N r (kV N r m):=rfl
theorem bFp(N m:Nat):kY N (m+1)=kW N (kY N m):=rfl
theorem tk(t:List Hl)(j:Nat)(h:j<t.length)(P:List Int):P++[t[j].1,t[j].2]++(t.drop (j+1)).flatMap hlI=P++(t.drop j).flatMap hlI:=by rw[gP h,cf,υ];rfl
theorem kb1{N:Nat}(hN:5000<=N)(r)(rs rs':List Rn)(n i:Nat)(t:List Hl)(f1 f2 f3 f4 f5:Int)(acc:List Str)(ht:t.length<=1000)(hacc:acc.length<=1000)(hi:i<=1000):∀(k j m:Nat) (P:List Int),j+k=t.length->k<m->P.length<=4+2*j->(∀x∈P++(t.drop j).flatMap hlI,I64 x)->
  nL N r m rs (n:Int) (i:Int) t ((t.length:Nat):Int) (j:Int) f1 f2 f3 f4 f5 rs' acc P=r rs (n:Int) ((i+1:Nat):Int) f1 f2 f3 f4 f5 rs' (acc++[cS (P++(t.drop j).flatMap hlI)])
 |k,j,0,P,_,h,_,_=>by omega
 |0,j,m+1,P,hj,_,hP,hI=>by
  rw[bGu];unfold mZ;rw[cm (by omega)]at hI|-;rw[List.flatMap_nil,χ]at hI|-;rw[aE (decide_eq_false (by omega)),aD,aG1 (by omega) P hI (by omega) (by omega),aB,aD,aC (by simp only[ξ,au];omega),aM (by omega) (by omega),aD,show((i:Int)+1)=((i+1:Nat):Int) by omega]
 |k+1,j,m+1,P,hj,hm,hP,hI=>by
  have hlt:j<t.length:=by omega
  rw[bGu];unfold mZ;rw[aF (decide_eq_true (by omega)),bJ (ε hlt),aD,aC (by simp only[ξ,au];omega),aM (by omega) (by omega),aD,aD,show((j:Int)+1)=((j+1:Nat):Int) by omega,kb1 hN r rs rs' n i t f1 f2 f3 f4 f5 acc ht hacc hi k (j+1) m _ (by omega) (by omega) (by simp only[κ,ξ,au];omega) (by rw[tk _ _ hlt];exact hI),tk _ _ hlt]
theorem rb1{N:Nat}(hN:5000<=N)(r)(rs':List Rn)(i:Nat)(t:List Hl)(f1 f2 f3 f4 f5 y1 y2 y3 y4:Int)(acc:List Str)(ht:t.length<=1000)(hacc:acc.length<=1000)(hi:i<=1000):∀(k j m:Nat) (P:List Int),j+k=t.length->k<m->P.length<=4+2*j->(∀x∈P++(t.drop j).flatMap hlI,I64 x)->
  kV N r m (i:Int) (j:Int) f1 f2 f3 f4 f5 rs' acc y1 y2 t y3 y4 P=r ((i+1:Nat):Int) f1 f2 f3 f4 f5 rs' (acc++[cS (P++(t.drop j).flatMap hlI)])
 |k,j,0,P,_,h,_,_=>by omega
 |0,j,m+1,P,hj,_,hP,hI=>by
  rw[bF5];unfold kO;rw[cm (by omega)]at hI|-;rw[List.flatMap_nil,χ]at hI|-;rw[aE (decide_eq_false (by omega)),aD,aA1 (by omega) P hI (by omega) (by omega),aB,aD,aC (by simp only[ξ,au];omega),aM (by omega) (by omega),aD,show((i:Int)+1)=((i+1:Nat):Int) by omega]
 |k+1,j,m+1,P,hj,hm,hP,hI=>by
  have hlt:j<t.length:=by omega
  rw[bF5];unfold kO;rw[aF (decide_eq_true (by omega)),bJ (ε hlt),bJ (ε hlt),aD,aC (by simp only[ξ,au];omega),aM (by omega) (by omega),aD,aD,show((j:Int)+1)=((j+1:Nat):Int) by omega,rb1 hN r rs' i t f1 f2 f3 f4 f5 y1 y2 y3 y4 acc ht hacc hi k (j+1) m _ (by omega) (by omega) (by simp only[κ,ξ,au];omega) (by rw[tk _ _ hlt];exact hI),tk _ _ hlt]
theorem aRx(h:okK b):(∀x∈(brs b).map fun r=>cS (rnI r),x.length<=50000)/\(cS (bl b)).length+(sL ((brs b).map fun r=>cS (rnI r))).length<=9223372036854775807:=by
 obtain⟨h1,h2,h3⟩:=h;have hp:∀x∈(brs b).map fun r=>cS (rnI r),x.length<=50000:=fun x hx=>by obtain⟨r,hr,rfl⟩:=c7.1 hx;have:=aFu (h3 r hr).2 (by rw[lA];have:=(h3 r hr).1;omega);rw[lA]at this;have:=(h3 r hr).1;omega
 refine⟨hp,?_⟩;have a1:=aFu h1 (by show 6<=_;omega);have a2:=aTy (by omega) hp (by rw[μ];omega);have h9:(bl b).length=6:=rfl;rw[μ]at a2;have a3:(50000+10)*(brs b).length<=50010*1000:=Nat.mul_le_mul_left _ h2;omega
theorem kb0{N:Nat}(hN:5000<=N)(b:Bk)(hb:okK b):∀(k i m:Nat),i+k=(brs b).length->k<m->
  mQ N m (brs b) (((brs b).length:Nat):Int) (i:Int) b.1 b.2.1 b.2.2.1 b.2.2.2.1 b.2.2.2.2.1 (brs b) (((brs b).take i).map fun r=>cS (rnI r))=some (uA b)
 |k,i,0,_,h=>by omega
 |0,i,m+1,hi,_=>by
  obtain⟨e1,e2⟩:=aRx hb;obtain⟨h1,h2,h3⟩:=hb;rw[bF0];unfold nB;rw[aE (decide_eq_false (by omega)),bc (by omega)];show bd? (eB N (bl b)) _=_;rw[aG1 (by omega) _ h1 (by show 6<N;omega) (by show 6<=_;omega),aB,aD,aSb (by omega) _ (fun x hx=>by have:=e1 x hx;omega) (by rw[μ];omega) (by rw[μ];omega),aB,aD,cR];exact aC e2
 |k+1,i,m+1,hi,hm=>by
  have hlt:i<(brs b).length:=by omega
  have hb':=hb;obtain⟨h1,h2,h3⟩:=hb';obtain⟨g1,g2⟩:=h3 _ (da hlt);have ih:=kb0 hN b hb k (i+1) m (by omega) (by omega);rw[aDa _ _ hlt,bn]at ih;rw[bF0];unfold nB;rw[aF (decide_eq_true (by omega)),bJ (ε hlt),aD];refine(kb1 hN _ (brs b) (brs b) _ i _ _ _ _ _ _ _ g1 (by rw[μ,bu];omega) (by omega) (brs b)[i].2.2.1.length 0 N _ (by omega) (by omega) (ω _) g2).trans ih
theorem bK7(hN:5000<=N)(h:okK b):aA2 N b=some (uA b):=by unfold aA2;exact kb0 hN b h (brs b).length 0 N (by omega) (by have:=h.2.1;omega)
theorem rb0{N:Nat}(hN:5000<=N)(b:Bk)(hb:okK b):∀(k i m:Nat),i+k=(brs b).length->k<m->
  kY N m (i:Int) b.1 b.2.1 b.2.2.1 b.2.2.2.1 b.2.2.2.2.1 (brs b) (((brs b).take i).map fun r=>cS (rnI r))=some (uA b)
 |k,i,0,_,h=>by omega
 |0,i,m+1,hi,_=>by
  obtain⟨e1,e2⟩:=aRx hb;obtain⟨h1,h2,h3⟩:=hb;rw[bFp];unfold kW;rw[aE (decide_eq_false (by omega)),bc (by omega)];show bd? (cE N (bl b)) _=_;rw[aA1 (by omega) _ h1 (by show 6<N;omega) (by show 6<=_;omega),aB,aD,aRa (by omega) _ (fun x hx=>by have:=e1 x hx;omega) (by rw[μ];omega) (by rw[μ];omega),aB,aD,cR];exact aC e2
 |k+1,i,m+1,hi,hm=>by
  have hlt:i<(brs b).length:=by omega
  have hb':=hb;obtain⟨h1,h2,h3⟩:=hb';obtain⟨g1,g2⟩:=h3 _ (da hlt);have ih:=rb0 hN b hb k (i+1) m (by omega) (by omega);rw[aDa _ _ hlt,bn]at ih;rw[bFp];unfold kW;rw[aF (decide_eq_true (by omega)),bJ (ε hlt),aD];refine(rb1 hN _ (brs b) i _ _ _ _ _ _ _ _ _ _ _ g1 (by rw[μ,bu];omega) (by omega) (brs b)[i].2.2.1.length 0 N _ (by omega) (by omega) (ω _) g2).trans ih
theorem bHo(hN:5000<=N)(h:okK b):oC N b=some (uA b):=by unfold oC;exact rb0 hN b h (brs b).length 0 N (by omega) (by have:=h.2.1;omega)
theorem aEb{j:Int}{f:Int->Option α}(hj:j=(k:Int))(h:k<l.length):gd? (j<((l.length:Nat):Int)) (gn? l k f)=f (l.getD k 0):=by rw[aC (by omega),aPm (ε h),ba,ε h];rfl
def flk(x:Bk×Int):Int×(Int×(Int×(Int×(Int×(List Rn×Int))))):=(x.1.1,(x.1.2.1,(x.1.2.2.1,(x.1.2.2.2.1,(x.1.2.2.2.2.1,(x.1.2.2.2.2.2,x.2))))))
def bt(l:List Int):Option (List Rn)->Bk×Int
 |none=>(bkz,11)
 |some r=>(bkD l r,0)
theorem bGx(r)(m:Nat):iQ r (m+1)=iI r (iQ r m):=rfl
theorem bG0(N m:Nat):iR N (m+1)=iO N (iR N m):=rfl
theorem gk1(r)(v:List Int)(ls:List Str)(n:Int)(i:Nat)(z1 z2 z3 z4 z5 z6 x y z w:Int)(acc e:List Rn)(hacc:acc.length<=1000000)(hi:i<=1000000):∀(k m:Nat) (l:List Int) (t:List Hl),l.length=2*k->k<m->t.length+k<=1000000->
  iQ r m v l ls n (i:Int) z1 z2 z3 z4 z5 z6 acc x y z w e t=r v ls n ((i+1:Nat):Int) z1 z2 z3 z4 z5 z6 (acc++[(x,(y,(tbl l t,(z,w))))]) e
 |k,0,l,t,_,h,_=>by omega
 |0,m+1,l,t,hl,_,_=>by
  have:l=[]:=fw.1 (by omega);subst this;rw[bGx];unfold iI;rw[aE (by rfl),aD,aD,aC (by simp only[ξ,au];omega),aM (by omega) (by omega),aD,aD,show((i:Int)+1)=((i+1:Nat):Int) by omega];rfl
 |k+1,m+1,l,t,hl,hm,ht=>by
  obtain⟨a,b,q,rfl⟩:∃a b q,l=a::b::q:=by
   match l,hl with
   |a::b::q,_=>exact⟨a,b,q,rfl⟩
   |[],h=>simp at h
   |[_],h=>simp at h;omega
  have hq:q.length=2*k:=by simp only[ξ]at hl;omega
  rw[bGx];unfold iI;rw[aF (decide_eq_true (by simp only[ξ];omega)),wN (x:=a) (by decide) rfl,wN (x:=b) (by decide) rfl,aD,aC (by simp only[ξ,au];omega),aC (by simp only[ξ];omega),aC (ω _),aD,aD,aD];have e2:cw ((a::b::q).length-2) (c9 2 (a::b::q))=q:=by show q.take (q.length+2-2)=q;rw[kj,List.take_length]
  rw[e2,gk1 r v ls n i z1 z2 z3 z4 z5 z6 x y z w acc e hacc hi k m q _ hq (by omega) (by simp only[κ,ξ,au];omega),tbl]
theorem gk0{N:Nat}(hN:20<=N)(v:List Int)(hv:v.length=6)(L:List Str)(hL:L.length<=1000000)(hp:∀x∈L,x.length<N/\x.length<=1000000):∀(k i m:Nat) (acc:List Rn),i+k=L.length->k<m->acc.length=i->
  iR N m v L ((L.length:Nat):Int) (i:Int) 0 0 0 0 0 0 acc []=some (flk (bt v (aIv (L.drop i) acc)))
 |k,i,0,acc,_,h,_=>by omega
 |0,i,m+1,acc,hi,_,_=>by
  rw[bG0];unfold iO;rw[aE (decide_eq_false (by omega)),cm (by omega),show(1:Int)=((1:Nat):Int)from rfl,nT (d:=0) (by omega),show(2:Int)=((2:Nat):Int)from rfl,nT (d:=0) (by omega),show(3:Int)=((3:Nat):Int)from rfl,nT (d:=0) (by omega),show(4:Int)=((4:Nat):Int)from rfl,nT (d:=0) (by omega),show(5:Int)=((5:Nat):Int)from rfl,nT (d:=0) (by omega),aOz,aB,aD];rfl
 |k+1,i,m+1,acc,hi,hm,ha=>by
  have hlt:i<L.length:=by omega
  obtain⟨p1,p2⟩:=hp _ (da hlt);rw[bG0];unfold iO;rw[aF (decide_eq_true (by omega)),bJ (ε hlt),aI4 _ (by omega) p1 p2,aB,gP hlt,aIv];unfold swp;dsimp only;generalize hg:L[i]=p at*;by_cases e:(aH p).2.2=0
  ·rw[kC e,aN];by_cases hu:(aH p).2.1=(p.length:Int)
   ·rw[kC hu,aN];by_cases h4:4<=(aH p).1.length
    ·rw[aF (decide_eq_true (by omega))];have e4:bo ((aH p).1.length:Int) 2=(((aH p).1.length%2:Nat):Int):=by rw[show(2:Int)=((2:Nat):Int)from rfl,<-fm]
     by_cases h2:(aH p).1.length%2=0
     ·rw[if_pos ⟨e,hu,h4,h2⟩,wW N (kC (by rw[e4];omega)),aB,rR,aD,aD,aD,aEr];dsimp only;have hl:(aH p).1.length<=p.length:=by
       rcases mS p with⟨_,u,_,_,h3,_⟩|g
       ·exact h3
       ·exact absurd e g
      rw[aEb (k:=0) (j:=0) rfl (by omega),aEb (k:=1) (j:=1) rfl (by omega),aEb (k:=2) (j:=2) rfl (by omega),aEb (k:=3) (j:=3) rfl (by omega),aC h4,aC (ω _),aD,aC (by omega),aD];have et:cw ((aH p).1.length-4) (c9 4 (aH p).1)=(aH p).1.drop 4:=bc (by rw[aq];exact ω _);rw[et,gk1 _ v L _ i 0 0 0 0 0 0 _ _ _ _ acc [] (by omega) (by omega) (((aH p).1.length-4)/2) N _ [] (by rw[aq];omega) (by omega) (by rw[au];omega)];exact gk0 hN v hv L hL hp k (i+1) m _ (by omega) (by omega) (by simp only[κ,ξ,au];omega)
     ·rw[if_neg (fun q=>h2 q.2.2.2),mG N (fA (by rw[e4];omega)),aB,oY,mN,aB,aD,pM,yR];rfl
    ·rw[aE (decide_eq_false (by omega)),if_neg (fun q=>h4 q.2.2.1),mG N rfl,aB,oY,mN,aB,aD,pM,yR];rfl
   ·rw[fA hu,aK,if_neg (fun q=>hu q.2.1),mG N rfl,aB,oY,mN,aB,aD,pM,yR];rfl
  ·rw[fA e,aK,if_neg (fun q=>e q.1),mG N rfl,aB,oY,mN,aB,aD,pM,yR];rfl
theorem aPz(s:Str)(hN:20<=N)(hs:s.length<N)(hb:s.length<=1000000):gS N s=some (flk (gbl s)):=by
 unfold gS gbl;rw[show(6:Int)=((6:Nat):Int)from rfl,aOf s 3 6 true (by omega) hs hb (by omega),aB];cases hh:hd s 3 6 true with
 |none=>
  unfold oS;rw[oY,mN,aB];rfl
 |some v=>
  obtain⟨g1,g2,g3,g4⟩:=aKl hh;unfold oS;rw[rR];have:=gk0 hN v.1 g1 v.2 (by omega) (fun x hx=>by have:=g4 x hx;omega) v.2.length 0 N [] (by omega) (by omega) rfl;refine this.trans (congrArg (fun x=>some (flk x)) ?_);rw[cc];dsimp only;cases aIv v.2 []<;>rfl
def rr:List Str->List Rn->Option (List Rn)
 |[],acc=>some acc
 |p::r,acc=>if(aH p).2.2=0/\4<=(aH p).1.length/\(aH p).1.length%2=0 then rr r (acc++[rnD (aH p).1])else none
def bAp(x:Bk×Int):Int×(Int×(Int×(Int×(Int×(Int×List Rn))))):=(x.1.1,(x.1.2.1,(x.1.2.2.1,(x.1.2.2.2.1,(x.1.2.2.2.2.1,(x.2,x.1.2.2.2.2.2))))))
def bNh(s:Str)(x1 x2 x3 x4 x5:Int):Option (List Rn)->Bk×Int
 |none=>(bkz,11)
 |some q=>if uA (x1,(x2,(x3,(x4,(x5,q)))))=s then((x1,(x2,(x3,(x4,(x5,q))))),0)else(bkz,11)
def bEt(l:List Rn):Prop:=∀r∈l,r.2.2.1.length<=1000/\∀x∈rnI r,I64 x
theorem bAi{p:Str}(hp:p.length<=1000)(e:(aH p).2.2=0)(h4:4<=(aH p).1.length)(h2:(aH p).1.length%2=0):(rnD (aH p).1).2.2.1.length<=1000/\∀x∈rnI (rnD (aH p).1),I64 x:=by
 have l1:=lA (rnD (aH p).1);rw[aUo h4 h2]at l1|-;rcases mS p with⟨_,u,_,_,h3,h5⟩|g
 ·exact⟨by omega,h5⟩
 ·exact absurd e g
theorem bF8:∀(L:List Str) (acc q:List Rn),bEt acc->(∀x∈L,x.length<=1000)->rr L acc=some q->bEt q/\q.length=acc.length+L.length
 |[],acc,q,ha,_,h=>by cases h;exact⟨ha,rfl⟩
 |p::r,acc,q,ha,hp,h=>by
  rw[rr]at h;split at h
  ·rename_i hh;have:=bF8 r _ q (fun x hx=>by
    rcases dn.1 hx with hx|hx
    ·exact ha x hx
    ·rw[bk.1 hx];exact bAi (hp p (by simp)) hh.1 hh.2.1 hh.2.2) (fun x hx=>hp x (by simp[hx])) h
   refine⟨this.1,?_⟩;rw[this.2];simp only[κ,ξ,au];omega
  ·cases h
theorem aSx:∀(l acc:List Rn),bEt l->rr (l.map fun r=>cS (rnI r)) acc=some (acc++l)
 |[],acc,_=>by rw[χ];rfl
 |r::l,acc,h=>by obtain⟨h1,h2⟩:=h r (by simp);rw[cx,rr,xW h2 (by rw[lA];omega),if_pos ⟨rfl,by rw[lA];omega,by rw[lA];omega⟩,bGn,aSx l _ (fun q hq=>h q (by simp[hq])),υ];rfl
theorem bAl(r)(m:Nat):gD r (m+1)=fV r (gD r m):=rfl
theorem aZ0(N m:Nat):dW N (m+1)=fZ N (dW N m):=rfl
theorem bMo(r)(s:Str)(L:List Str)(i:Nat)(f1 f2 f3 f4 f5 x y z w:Int)(l:List Int)(acc:List Rn)(hacc:acc.length<=1000000)(hi:i<=1000000)(hl:l.length<=1000000):∀(k j m:Nat) (t:List Hl),l.length=j+2*k->k<m->t.length+k<=1000000->
  gD r m s (i:Int) (j:Int) 0 0 0 0 0 0 0 0 0 0 0 11 L f1 f2 f3 f4 f5 l x y z w [] [] acc t=r s ((i+1:Nat):Int) 0 0 0 0 0 0 0 0 0 0 0 11 L f1 f2 f3 f4 f5 [] [] (acc++[(x,(y,(tbl (l.drop j) t,(z,w))))])
 |k,j,0,t,_,h,_=>by omega
 |0,j,m+1,t,hj,_,_=>by
  rw[bAl];unfold fV;rw[aE (decide_eq_false (by omega)),aD,aD,aC (by simp only[ξ,au];omega),aM (by omega) (by omega),aD,aD,aD,aD,show((i:Int)+1)=((i+1:Nat):Int) by omega,cm (by omega)];rfl
 |k+1,j,m+1,t,hj,hm,ht=>by
  have l0:j<l.length:=by omega
  have l1:j+1<l.length:=by omega
  rw[bAl];unfold fV;rw[aF (decide_eq_true (by omega)),aS6 (ε l0),aM (by omega) (by omega),show((j:Int)+1)=((j+1:Nat):Int) by omega,aS6 (ε l1),aD,aC (by simp only[ξ,au];omega),aM (by omega) (by omega),aD,aD,aD,aD,aD,aD,show((j:Int)+2)=((j+2:Nat):Int) by omega,bMo r s L i f1 f2 f3 f4 f5 x y z w l acc hacc hi hl k (j+2) m _ (by omega) (by omega) (by simp only[κ,ξ,au];omega),gP l0,gP l1,tbl]
theorem bLn{N:Nat}(hN:5000<=N)(s:Str)(x1 x2 x3 x4 x5:Int)(hI:∀x∈[3,x1,x2,x3,x4,x5],I64 x)(L:List Str)(hL:L.length<=1000)(hp:∀x∈L,x.length<=1000):∀(k i m:Nat) (acc:List Rn),i+k=L.length->k<m->acc.length=i->bEt acc->
  dW N m s (i:Int) 0 0 0 0 0 0 0 0 0 0 0 11 L x1 x2 x3 x4 x5 [] [] acc=some (bAp (bNh s x1 x2 x3 x4 x5 (rr (L.drop i) acc)))
 |k,i,0,acc,_,h,_,_=>by omega
 |0,i,m+1,acc,hi,_,ha,hok=>by
  rw[aZ0];unfold fZ;rw[aE (decide_eq_false (by omega)),aD,cm (by omega)];have ok:okK (x1,(x2,(x3,(x4,(x5,acc))))):=⟨hI,by show acc.length<=_;omega,hok⟩;rw[bHo hN ok,aB];show _=some (bAp (if uA (x1,(x2,(x3,(x4,(x5,acc)))))=s then((x1,(x2,(x3,(x4,(x5,acc))))),0)else(bkz,11)));by_cases he:uA (x1,(x2,(x3,(x4,(x5,acc)))))=s
  ·rw[bJ9 he,aK,aD,if_pos he];rfl
  ·rw[aZ7 he,aN,aD,if_neg he];rfl
 |k+1,i,m+1,acc,hi,hm,ha,hok=>by
  have hlt:i<L.length:=by omega
  have p2:=hp _ (da hlt);rw[aZ0];unfold fZ;rw[aF (decide_eq_true (by omega)),aS6 (ε hlt),aA0 _ (by omega) (by omega) (by omega),aB,gP hlt,rr];unfold swp;dsimp only;generalize hg:L[i]=p at*;by_cases e:(aH p).2.2=0
  ·have hl:(aH p).1.length<=p.length:=by
    rcases mS p with⟨_,u,_,_,h3,_⟩|g
    ·exact h3
    ·exact absurd e g
   rw[jT e,aK];by_cases h4:4<=(aH p).1.length
   ·rw[aE (decide_eq_false (by omega)),aD,aD,aD,aD,aD,aB];dsimp only;have e4:bo ((aH p).1.length:Int) 2=(((aH p).1.length%2:Nat):Int):=by rw[show(2:Int)=((2:Nat):Int)from rfl,<-fm]
    by_cases h2:(aH p).1.length%2=0
    ·rw[if_pos ⟨e,h4,h2⟩,jT (show bo ((aH p).1.length:Int) 2=0 by rw[e4];omega),aK];rw[aEb (k:=0) (j:=0) rfl (by omega),aEb (k:=1) (j:=1) rfl (by omega),aEb (k:=2) (j:=2) rfl (by omega),aEb (k:=3) (j:=3) rfl (by omega),aD,aD,aD,aD,aD];rw[show(4:Int)=((4:Nat):Int)from rfl,bMo _ s L i x1 x2 x3 x4 x5 _ _ _ _ _ acc (by omega) (by omega) (by omega) (((aH p).1.length-4)/2) 4 N [] (by omega) (by omega) (by rw[au];omega)];refine bLn hN s x1 x2 x3 x4 x5 hI L hL hp k (i+1) m _ (by omega) (by omega) (by simp only[κ,ξ,au];omega) fun x hx=>?_;rcases dn.1 hx with hx|hx
     ·exact hok x hx
     ·rw[bk.1 hx];exact bAi p2 e h4 h2
    ·rw[if_neg (fun q=>h2 q.2.2),mV (show bo ((aH p).1.length:Int) 2≠0 by rw[e4];omega),aN,aD];rfl
   ·rw[aF (decide_eq_true (by omega)),aD,aD,aD,aD,aD,aB];dsimp only;rw[aN,aD,if_neg (fun q=>h4 q.2.1)];rfl
  ·rw[mV e,aN,aD,aD,aD,aD,aD,aB];dsimp only;rw[aN,aD,if_neg (fun q=>e q.1)];rfl
theorem bLw(h:(gbl s).2≠0):gbl s=(bkz,11):=by
 rcases bKn s with g|g
 ·exact absurd g h
 ·exact g
theorem gK(ok:okK b):aH (uA b)=(bl b,((cS (bl b)).length:Int),0)/\(dH ((uA b).drop (cS (bl b)).length)).1=(brs b).map (fun r=>cS (rnI r))/\(dH ((uA b).drop (cS (bl b)).length)).2.2=0:=by have hs:=(aRx ok).1;obtain⟨h1,h2,h3⟩:=ok;have e:=aDu (l:=(brs b).map fun r=>cS (rnI r)) (fun x hx=>by have:=hs x hx;omega) (by rw[μ];omega) [];rw[χ]at e;refine⟨qG h1 (by show 6<=_;omega) _,?_⟩;unfold uA;rw[nQ,e];exact⟨rfl,rfl⟩
theorem aW3(s:Str)(hN:5000<=N)(hb:s.length<=1000):jM N s=some (bAp (gbl s)):=by
 have neg:∀P:Prop,(∀v,okK v->s=uA v->gbl s=(v,0)->¬P)->P->gbl s=(bkz,11):=fun P h hP=>bLw fun h0=>by obtain⟨g1,g2⟩:=bCo hb h0;exact h _ g2 g1 (by rw[<-h0]) hP
 unfold jM;rw[aA0 s (by omega) (by omega) (by omega),aB];unfold swp;dsimp only;rcases mS s with⟨e,u,h1,h2,h3,h4⟩|g
 ·rw[jT e,aK,aD,aB];dsimp only;by_cases hl:(aH s).1.length=6
  ·rw[jT (show((aH s).1.length:Int)=6 by omega),aK,h1,aC (by omega),π,aC h2,aC (ω _),aHr,aEj _ (by omega) (by rw[aq];omega) (by rw[aq];omega),aB];unfold swp;dsimp only;rcases aBq (s.drop u)with⟨e',u',g1,g2,g3,g4⟩|g
   ·rw[aq]at g3;rw[jT e',aK];have hV:∀v,okK v->s=uA v->aH s=(bl v,(u:Int),0)/\(dH (s.drop u)).1=(brs v).map (fun r=>cS (rnI r)):=fun v ok hv=>by
     obtain⟨i1,i2,i3⟩:=gK ok;rw[<-hv]at i1 i2;have hu:u=(cS (bl v)).length:=by rw[i1]at h1;exact(Int.ofNat.inj h1).symm
     rw[<-hu]at i1 i2;exact⟨i1,i2⟩
    have h8:=bGi hl;have hI:=h4;generalize hG:(dH (s.drop u)).1=L at*;rw[h8]at hI|-;have hVL:∀v,okK v->s=uA v->(aH s).1=bl v:=fun v ok hv=>by rw[(hV v ok hv).1]
    rw[h8]at hVL;generalize(aH s).1.getD 0 0=a0 at*;generalize(aH s).1.getD 1 0=a1 at*;generalize(aH s).1.getD 2 0=a2 at*;generalize(aH s).1.getD 3 0=a3 at*;generalize(aH s).1.getD 4 0=a4 at*;generalize(aH s).1.getD 5 0=a5 at*;show gl? L.length L (dW N N s ((0:Nat):Int) 0 0 0 0 0 0 0 0 0 0 0 11 L a1 a2 a3 a4 a5 [] [] [])=_;rw[aD];have hI':∀x∈[3,a1,a2,a3,a4,a5],I64 x:=fun x hx=>by
     rcases bw.1 hx with rfl|hx
     ·exact⟨by decide,by decide⟩
     ·exact hI x (bw.2 (.inr hx))
    have hp:∀x∈L,x.length<=1000:=fun x hx=>by have:=g4 x hx;rw[aq]at this;omega
    rw[bLn hN s a1 a2 a3 a4 a5 hI' L (by omega) hp L.length 0 N [] (by omega) (by omega) rfl (fun p hp=>(dm hp).elim),cc];refine congrArg (fun x=>some (bAp x)) ?_;cases hq:rr L []with
    |none=>
     refine(neg True (fun v ok hv _ _=>?_) trivial).symm;have:=(hV v ok hv).2;rw[this,aSx _ _ ok.2.2]at hq;cases hq
    |some q=>
     obtain⟨q1,q2⟩:=bF8 L [] q (fun p hp=>(dm hp).elim) hp hq;have ok:okK (a1,(a2,(a3,(a4,(a5,q))))):=⟨hI',by show q.length<=_;rw[q2,au];omega,q1⟩;unfold bNh;dsimp only;by_cases he:uA (a1,(a2,(a3,(a4,(a5,q)))))=s
     ·rw[if_pos he,<-he,bEo ok]
     ·rw[if_neg he];refine(neg True (fun v okv hv _ _=>he ?_) trivial).symm;have e1:=hVL v okv hv;have e2:=(hV v okv hv).2;rw[e2,aSx _ _ okv.2.2,cg]at hq;have e3:=Option.some.inj hq;rw[hv];have e5:bl (a1,(a2,(a3,(a4,(a5,q)))))=bl v:=by show 3::_=3::_;exact congrArg (fun t=>3::t) (congrArg List.tail e1)
      unfold uA;rw[e5,<-e3]
   ·rw[mV g,aN,aD,neg ((dH (s.drop u)).2.2≠0) (fun v ok hv _ h=>h (by
     obtain⟨i1,i2,i3⟩:=gK ok;rw[<-hv]at i1 i3;have hu:u=(cS (bl v)).length:=by rw[i1]at h1;exact(Int.ofNat.inj h1).symm
     rw[hu];exact i3)) g]
    rfl
  ·rw[mV (show((aH s).1.length:Int)≠6 by omega),aN,aD,neg ((aH s).1.length≠6) (fun v ok hv _ h=>h (by rw[hv,(gK ok).1];rfl)) hl];rfl
 ·rw[mV g,aN,aD,aB];dsimp only;rw[aN,aD,neg ((aH s).2.2≠0) (fun v ok hv _ h=>h (by rw[hv,(gK ok).1])) g];rfl
def lp(y:Int):Bool:=decide (bo y 400=0\/(bo y 4=0/\bo y 100≠0))
def dy(b:Bool):Int:=if b then 366 else 365
theorem aZg(N:Nat)(y:Int):gR N y=some (lp y):=by
 unfold gR lp;by_cases h4:bo y 4=0
 ·rw[kC h4,aN];by_cases h1:bo y 100=0
  ·rw[jT h1,aK,aB];refine congrArg some ?_;rw[ef,beq_iff_eq,decide_eq_true_eq];omega
  ·rw[mV h1,aN,aB,decide_eq_true (.inr ⟨h4,h1⟩)]
 ·rw[fA h4,aK,aB];refine congrArg some ?_;rw[ef,beq_iff_eq,decide_eq_true_eq];omega
theorem aYu(N:Nat)(y:Int):nA N y=some (lp y):=by
 unfold nA lp;by_cases h0:bo y 400=0
 ·rw[kC h0,aN,decide_eq_true (.inl h0)]
 ·rw[fA h0,aK];by_cases h4:bo y 4=0
  ·rw[kC h4,aN,aB];refine congrArg some ?_;rw[ef,bne_iff_ne,decide_eq_true_eq];omega
  ·rw[fA h4,aK,aB,decide_eq_false (by omega)]
theorem bHw(N:Nat)(y:Int):gJ N y=some (dy (lp y)):=by unfold gJ;rw[aZg,aB];cases lp y<;>rfl
theorem bH1(N:Nat)(y:Int):mK N y=some (dy (lp y)):=by unfold mK;rw[aYu,aB];cases lp y<;>rfl
def ml(b:Bool):Nat->Int
 |2=>if b then 29 else 28
 |4=>30
 |6=>30
 |9=>30
 |11=>30
 |_=>31
theorem bMe(N:Nat)(y:Int)(m:Nat)(h1:1<=m)(h2:m<=12):eT N y (m:Int)=some (ml (lp y) m):=by unfold eT;rw[aZg];rcases(by omega:m=1\/m=2\/m=3\/m=4\/m=5\/m=6\/m=7\/m=8\/m=9\/m=10\/m=11\/m=12)with h|h|h|h|h|h|h|h|h|h|h|h<;>subst h<;>cases lp y<;>rfl
theorem bMg(N:Nat)(y:Int)(m:Nat)(h1:1<=m)(h2:m<=12):iW N y (m:Int)=some (ml (lp y) m):=by unfold iW;rw[aYu];rcases(by omega:m=1\/m=2\/m=3\/m=4\/m=5\/m=6\/m=7\/m=8\/m=9\/m=10\/m=11\/m=12)with h|h|h|h|h|h|h|h|h|h|h|h<;>subst h<;>cases lp y<;>rfl
def R(b:Bool):Nat->Int
 |0=>0
 |k+1=>ml b (12-k)+R b k
theorem bLv(b:Bool):R b 12=dy b:=by cases b<;>rfl
theorem aYd(b:Bool)(m:Nat):28<=ml b m/\ml b m<=31:=by unfold ml;split<;>(try split)<;>omega
theorem bOx(N m:Nat):iK N (m+1)=mI N (iK N m):=rfl
theorem bOj(N m:Nat):iH N (m+1)=nO N (iH N m):=rfl
theorem bN3(N m:Nat):nP N (m+1)=rJ N (nP N m):=rfl
theorem bOu(N m:Nat):mW N (m+1)=qJ N (mW N m):=rfl
theorem bGm(N:Nat)(y:Int):∀(k m f:Nat) (d:Int),m+k=13->1<=m->0<=d->d<1000->d<R (lp y) k->k<f->∃r,iK N f d y (m:Int)=some (y,r)
 |k,m,0,d,_,_,_,_,_,h=>by omega
 |0,m,f+1,d,_,_,h0,_,h,_=>by have:d<0:=h;omega
 |k+1,m,f+1,d,hm,h1,h0,hd,h,hf=>by
  have hp:=aYd (lp y) m;rw[bOx];unfold mI;rw[bMe N y m h1 (by omega),aB];by_cases hh:d≥ml (lp y) m
  ·rw[aF (decide_eq_true hh),aB,aM (by omega) (by omega),aM (by omega) (by omega),show((m:Int)+1)=((m+1:Nat):Int) by omega];have e:R (lp y) (k+1)=ml (lp y) m+R (lp y) k:=by show ml (lp y) (12-k)+_=_;rw[show 12-k=m by omega]
   exact bGm N y k (m+1) f _ (by omega) (by omega) (by omega) (by omega) (by omega) (by omega)
  ·rw[aE (decide_eq_false hh),aM (by omega) (by omega)];exact⟨_,rfl⟩
theorem bFn(N:Nat)(y:Int):∀(k m f:Nat) (d:Int),m+k=13->1<=m->0<=d->d<1000->d<R (lp y) k->k<f->∃r,nP N f d 0 0 0 0 y (m:Int) 0 0=some (y,r)
 |k,m,0,d,_,_,_,_,_,h=>by omega
 |0,m,f+1,d,_,_,h0,_,h,_=>by have:d<0:=h;omega
 |k+1,m,f+1,d,hm,h1,h0,hd,h,hf=>by
  have hp:=aYd (lp y) m;rw[bN3];unfold rJ;rw[bMg N y m h1 (by omega),aB];by_cases hh:d≥ml (lp y) m
  ·rw[aF (decide_eq_true hh),aB,aM (by omega) (by omega),aM (by omega) (by omega),show((m:Int)+1)=((m+1:Nat):Int) by omega];have e:R (lp y) (k+1)=ml (lp y) m+R (lp y) k:=by show ml (lp y) (12-k)+_=_;rw[show 12-k=m by omega]
   exact bFn N y k (m+1) f _ (by omega) (by omega) (by omega) (by omega) (by omega) (by omega)
  ·rw[aE (decide_eq_false hh),aM (by omega) (by omega)];exact⟨_,rfl⟩
def yr:Nat->Int->Int->Int
 |0,y,_=>y
 |n+1,y,d=>if d≥dy (lp y)then yr n (y+1) (d-dy (lp y))else y
theorem bMi(b:Bool):365<=dy b/\dy b<=366:=by cases b<;>decide
theorem bNn{N:Nat}(hN:20<=N):∀(n f:Nat) (y d:Int),0<=y->y+n<=1000000->0<=d->d<365*n->n<f->n<=10000->∃r,iH N f d y 1=some (yr n y d,r)
 |n,0,y,d,_,_,_,_,h,_=>by omega
 |0,f+1,y,d,_,_,h0,h,_,_=>by omega
 |n+1,f+1,y,d,hy,hyn,h0,h,hf,hn=>by
  obtain⟨b1,b2⟩:=bMi (lp y);rw[bOj,yr];unfold nO;rw[bHw,aB];by_cases hh:d≥dy (lp y)
  ·rw[aF (decide_eq_true hh),aB,aM (by omega) (by omega),aM (by omega) (by omega),if_pos hh];exact bNn hN n f _ _ (by omega) (by omega) (by omega) (by omega) (by omega) (by omega)
  ·rw[aE (decide_eq_false hh),if_neg hh];exact bGm N y 12 1 N d rfl (by omega) h0 (by omega) (by rw[bLv];omega) (by omega)
theorem bNa{N:Nat}(hN:20<=N):∀(n f:Nat) (y d:Int),0<=y->y+n<=1000000->0<=d->d<365*n->n<f->n<=10000->∃r,mW N f d 0 0 0 0 y 1 0 0=some (yr n y d,r)
 |n,0,y,d,_,_,_,_,h,_=>by omega
 |0,f+1,y,d,_,_,h0,h,_,_=>by omega
 |n+1,f+1,y,d,hy,hyn,h0,h,hf,hn=>by
  obtain⟨b1,b2⟩:=bMi (lp y);rw[bOu,yr];unfold qJ;rw[bH1,aB];by_cases hh:d≥dy (lp y)
  ·rw[aF (decide_eq_true hh),aB,aM (by omega) (by omega),aM (by omega) (by omega),if_pos hh];exact bNa hN n f _ _ (by omega) (by omega) (by omega) (by omega) (by omega) (by omega)
  ·rw[aE (decide_eq_false hh),if_neg hh];exact bFn N y 12 1 N d rfl (by omega) h0 (by omega) (by rw[bLv];omega) (by omega)
def cy(d:Int):Int:=if d<0\/d>14609 then 0 else yr 41 2000 d
theorem bJg(hN:100<=N)(d:Int):∃r,dN N d=some (cy d,r):=by
 unfold dN cy;by_cases h:d<0
 ·rw[aF (decide_eq_true h),aB,if_pos (.inl h)];exact⟨_,rfl⟩
 ·rw[aE (decide_eq_false h),aB];by_cases h':d>14609
  ·rw[aF (decide_eq_true h'),if_pos (.inr h')];exact⟨_,rfl⟩
  ·rw[aE (decide_eq_false h'),if_neg (by omega)];exact bNn (by omega) 41 N 2000 d (by omega) (by omega) (by omega) (by omega) (by omega) (by omega)
theorem bJt(hN:100<=N)(d:Int):∃r,pX N d=some (cy d,r):=by
 unfold pX cy;by_cases h:d<0
 ·rw[aF (decide_eq_true h),aB,if_pos (.inl h)];exact⟨_,rfl⟩
 ·rw[aE (decide_eq_false h),aB];by_cases h':d>14609
  ·rw[aF (decide_eq_true h'),if_pos (.inr h')];exact⟨_,rfl⟩
  ·rw[aE (decide_eq_false h'),if_neg (by omega)];exact bNa (by omega) 41 N 2000 d (by omega) (by omega) (by omega) (by omega) (by omega) (by omega)
def pl(g t:Int):Int×TO:=if g<0\/g≥40\/t<0\/t≥1402560 then(0,(0,3))else(g,(cy (dk t 96),0))
def wh(s:Str):Int×TO:=
 if(grd s).2=0 then pl (grd s).1.1 (grd s).1.2.2.1
 else if(gvr s).2=0 then pl (gvr s).1.2.1 (gvr s).1.2.2.2.2.1
 else if(gbl s).2=0 then pl (gbl s).1.1 (gbl s).1.2.2.1
 else(0,(0,11))
theorem bCg(hN:100<=N)(g t:Int){γ:Type}(K:Int×TO->Option γ):
  (bd? (if? (decide (g<0)) (some (g,t,true)) (if? (decide (g≥40)) (some (g,t,true)) (if? (decide (t<0)) (some (g,t,true)) (some (g,t,decide (t≥1402560)))))) fun w7=>if? (w7.2.2) (K (0,(0,3))) (ck .i64 (dk w7.2.1 96) (bd? (dN N (dk w7.2.1 96)) fun v8=>K (w7.1,(v8.1,0)))))=K (pl g t):=by
 unfold pl;by_cases h1:g<0
 ·rw[aF (decide_eq_true h1),aB,if_pos (.inl h1)];rfl
 ·rw[aE (decide_eq_false h1)];by_cases h2:g≥40
  ·rw[aF (decide_eq_true h2),aB,if_pos (.inr (.inl h2))];rfl
  ·rw[aE (decide_eq_false h2)];by_cases h3:t<0
   ·rw[aF (decide_eq_true h3),aB,if_pos (.inr (.inr (.inl h3)))];rfl
   ·rw[aE (decide_eq_false h3),aB];dsimp only;by_cases h4:t≥1402560
    ·rw[aF (decide_eq_true h4),if_pos (.inr (.inr (.inr h4)))]
    ·have hd:0<=dk t 96/\dk t 96<=t:=by obtain⟨n,rfl⟩:=Int.eq_ofNat_of_zero_le (show 0<=t by omega);rw[show(96:Int)=((96:Nat):Int)from rfl,<-jz];omega
     obtain⟨r,hr⟩:=bJg hN (dk t 96);rw[aE (decide_eq_false h4),if_neg (by omega),aM (by omega) (by omega),hr,aB]
theorem aOk(hN:100<=N)(g t:Int):gZ N g t=some (pl g t):=by
 unfold gZ pl;by_cases h1:g<0
 ·rw[aF (decide_eq_true h1),aB,if_pos (.inl h1)];rfl
 ·rw[aE (decide_eq_false h1)];by_cases h2:g>39
  ·rw[aF (decide_eq_true h2),aB,if_pos (.inr (.inl (by omega)))];rfl
  ·rw[aE (decide_eq_false h2)];by_cases h3:t<0
   ·rw[aF (decide_eq_true h3),aB,if_pos (.inr (.inr (.inl h3)))];rfl
   ·rw[aE (decide_eq_false h3),aB];dsimp only;by_cases h4:t≥1402560
    ·rw[aF (decide_eq_true h4),if_pos (.inr (.inr (.inr h4)))]
    ·have hd:0<=dk t 96/\dk t 96<=t:=by obtain⟨n,rfl⟩:=Int.eq_ofNat_of_zero_le (show 0<=t by omega);rw[show(96:Int)=((96:Nat):Int)from rfl,<-jz];omega
     obtain⟨r,hr⟩:=bJt hN (dk t 96);rw[aE (decide_eq_false h4),if_neg (by omega),aM (by omega) (by omega),hr,aB]
theorem bEd(N m:Nat):dX N (m+1)=iX N (dX N m):=rfl
theorem k_1(s:Str)(hN:5000<=N)(hb:s.length<=1000):mP N s=some ((grd s).1.1,((grd s).1.2.2.1,(grd s).2)):=by unfold mP;rw[aJ0 s (by omega) (by omega) (by omega),aB]
theorem k_2(s:Str)(hN:5000<=N)(hb:s.length<=1000):nS N s=some ((gvr s).1.2.1,((gvr s).1.2.2.2.2.1,(gvr s).2)):=by unfold nS;rw[aJn s (by omega) (by omega) (by omega),aB];rfl
theorem k_3(s:Str)(hN:5000<=N)(hb:s.length<=1000):nC N s=some ((gbl s).1.1,((gbl s).1.2.2.1,(gbl s).2)):=by unfold nC;rw[aPz s (by omega) (by omega) (by omega),aB];rfl
theorem bA4(s:Str)(hN:5000<=N)(hb:s.length<=1000):jL N s=some (wh s):=by
 obtain⟨m,rfl⟩:∃m,N=m+4:=⟨N-4,by omega⟩;generalize hM:m+4=M at*;unfold jL uL;rw[aB];have e3:dX M (m+1) s 3=some (0,(0,11)):=by rw[bEd];rfl
 have e2:dX M (m+2) s 2=some (if(gbl s).2=0 then pl (gbl s).1.1 (gbl s).1.2.2.1 else(0,(0,11))):=by
  rw[bEd];unfold iX;rw[aF (by rfl),aE (by rfl),aE (by rfl),aF (by rfl),k_3 s hN hb,aB];dsimp only;by_cases h:(gbl s).2=0
  ·rw[jT h,aK,if_pos h,bCg (by omega) _ _ (fun x=>lN (some x)),pM,yR]
  ·rw[mV h,aN,if_neg h,aEr];exact(aM (n:=2+1) (by decide) (by decide)).trans e3
 have e1:dX M (m+3) s 1=some (if(gvr s).2=0 then pl (gvr s).1.2.1 (gvr s).1.2.2.2.2.1 else if(gbl s).2=0 then pl (gbl s).1.1 (gbl s).1.2.2.1 else(0,(0,11))):=by
  rw[bEd];unfold iX;rw[aF (by rfl),aE (by rfl),aF (by rfl),k_2 s hN hb,aB];dsimp only;by_cases h:(gvr s).2=0
  ·rw[jT h,aK,if_pos h,bCg (by omega) _ _ (fun x=>lN (some x)),pM,yR]
  ·rw[mV h,aN,if_neg h,aEr];exact(aM (n:=1+1) (by decide) (by decide)).trans e2
 have e0:dX M (m+4) s 0=some (wh s):=by
  rw[bEd];unfold iX;rw[aF (by rfl),aF (by rfl),k_1 s hN hb,aB];unfold wh;dsimp only;by_cases h:(grd s).2=0
  ·rw[jT h,aK,if_pos h,bCg (by omega) _ _ (fun x=>lN (some x)),pM,yR]
  ·rw[mV h,aN,if_neg h,aEr];exact(aM (n:=0+1) (by decide) (by decide)).trans e1
 rw[hM]at e0;exact e0
theorem bIv(s:Str)(hN:5000<=N)(hb:s.length<=1000):oM N s=some (wh s):=by
 unfold oM wh;rw[aP7 s (by omega) (by omega) (by omega),aB];by_cases h:(grd s).2=0
 ·rw[kC h,aN,aOk (by omega),aB,if_pos h]
 ·rw[fA h,aK,if_neg h,aRm s (by omega) (by omega) (by omega),aB];unfold fl2;dsimp only;by_cases h:(gvr s).2=0
  ·rw[kC h,aN,aOk (by omega),aB,if_pos h]
  ·rw[fA h,aK,if_neg h,aW3 s (by omega) (by omega),aB];unfold bAp;dsimp only;by_cases h:(gbl s).2=0
   ·rw[kC h,aN,aOk (by omega),aB,if_pos h]
   ·rw[fA h,aK,if_neg h]
end Go.Proofs.Tryz
set_option maxRecDepth 8000
namespace Go.Proofs.Tryz
open Go.Eng Go.RowKit
theorem bAm:fM 17179869200=some true:=by kernel_rfl
end Go.Proofs.Tryz
set_option maxRecDepth 8000
namespace Go.Proofs.Tryz
open Go.Eng Go.RowKit Go.Lib
variable{N:Nat}
theorem aMe{n:Int}(h:IntKind.min .i64<=n/\n<=IntKind.max .i64):I64 n:=by
 have e1:IntKind.min .i64=-9223372036854775808:=by decide
 have e2:IntKind.max .i64=9223372036854775807:=by decide
 rw[e1,e2]at h;exact h
set_option maxRecDepth 8000
set_option synthInstance.maxSize 100000
set_option synthInstance.maxHeartbeats 400000
abbrev Fo:=Int×(Int×List Str)
def hr(s:Str)(g y:Int):Bool:=decide ((wh s).2.2=0/\(wh s).1=g/\(wh s).2.1=y)
theorem bG6(a b c g y:Int):(bd? (if? (c==0) (if? (a==g) (some (b==y)) (some false)) (some false)) fun w5=>some w5)=some (decide (c=0/\a=g/\b=y)):=by
 by_cases h1:c=0
 ·rw[kC h1,aN];by_cases h2:a=g
  ·rw[kC h2,aN,aB];refine congrArg some ?_;rw[ef,beq_iff_eq,decide_eq_true_eq];exact⟨fun h=>⟨h1,h2,h⟩,fun h=>h.2.2⟩
  ·rw[fA h2,aK,aB,decide_eq_false (fun q=>h2 q.2.1)]
 ·rw[fA h1,aK,aB,decide_eq_false (fun q=>h1 q.1)]
theorem xY(s:Str)(g y:Int)(hN:5000<=N)(hb:s.length<=1000):fS N s g y=some (hr s g y):=by unfold fS hr;rw[bA4 s hN hb,aB,bG6]
theorem aP1(s:Str)(g y:Int)(hN:5000<=N)(hb:s.length<=1000):lP N s g y=some (hr s g y):=by unfold lP hr;rw[bIv s hN hb,aB,bG6]
def bad(g y:Int):Option Str->Str->Bool
 |none,x=>!hr x g y
 |some q,x=>!hr x g y||(Op.bytesLess x q||x==q)
def ckl(g y:Int):Option Str->List Str->Int
 |_,[]=>0
 |p,x::r=>if bad g y p x then 1 else ckl g y (some x) r
def pv(l:List Str):Nat->Option Str
 |0=>none
 |i+1=>l[i]?
def chk(f:Fo):Int:=if f.1<0\/f.1≥40\/f.2.1<2000\/f.2.1≥2040 then 3 else if f.2.2.length>1000 then 2 else ckl f.1 f.2.1 none f.2.2
theorem bMz(N m:Nat):fQ N (m+1)=mH N (fQ N m):=rfl
theorem bKy(N m:Nat):eI N (m+1)=lC N (eI N m):=rfl
theorem aUa{N:Nat}(hN:5000<=N)(l:List Str)(g y:Int)(hp:∀x∈l,x.length<=1000)(hl:l.length<=1000):∀(k i m:Nat),i+k=l.length->k<m->fQ N m l ((l.length:Nat):Int) (i:Int) g y l=some (ckl g y (pv l i) (l.drop i))
 |k,i,0,_,h=>by omega
 |0,i,m+1,hi,_=>by
  rw[bMz];unfold mH;rw[aE (decide_eq_false (by omega)),cm (by omega)];rfl
 |k+1,i,m+1,hi,hm=>by
  have hlt:i<l.length:=by omega
  have hb:=hp _ (da hlt);have ih:=aUa hN l g y hp hl k (i+1) m (by omega) (by omega);have ev:pv l (i+1)=some l[i]:=ε hlt;rw[ev]at ih;rw[bMz];unfold mH;rw[aF (decide_eq_true (by omega)),bJ (ε hlt),gP hlt,ckl];have fin:∀b:Bool,(bd? (some (l,((l.length:Nat):Int),(i:Int),b,g,y,l)) fun w14=>if? (w14.2.2.2.1) (some 1) (ck .i64 ((w14.2.2.1+1)) (fQ N m w14.1 w14.2.1 (w14.2.2.1+1) w14.2.2.2.2.1 w14.2.2.2.2.2.1 w14.2.2.2.2.2.2)))=some (if b then 1 else ckl g y (some l[i]) (l.drop (i+1))):=fun b=>by
   rw[aB];dsimp only;cases b with
   |true=>rw[aN];rfl
   |false=>
    rw[aK,aM (by omega) (by omega),show((i:Int)+1)=((i+1:Nat):Int) by omega,ih];rfl
  cases i with
  |zero=>
   rw[aE (decide_eq_false (by omega)),xY _ g y hN hb,aB];exact fin _
  |succ j=>
   have hj:j<l.length:=by omega
   have ev:pv l (j+1)=some l[j]:=ε hj;rw[aF (decide_eq_true (by omega)),aM (by omega) (by omega),show(((j+1:Nat):Int)-1)=(j:Int) by omega,bJ (ε hj),ev,bad];cases hx:(Op.bytesLess l[j+1] l[j]||l[j+1]==l[j])with
   |true=>rw[aN,Bool.or_true];exact fin true
   |false=>rw[aK,xY _ g y hN hb,aB,Bool.or_false];exact fin _
theorem aUr{N:Nat}(hN:5000<=N)(l:List Str)(g y:Int)(hp:∀x∈l,x.length<=1000)(hl:l.length<=1000):∀(k i m:Nat),i+k=l.length->k<m->eI N m (i:Int) g y l=some (ckl g y (pv l i) (l.drop i))
 |k,i,0,_,h=>by omega
 |0,i,m+1,hi,_=>by
  rw[bKy];unfold lC;rw[aE (decide_eq_false (by omega)),cm (by omega)];rfl
 |k+1,i,m+1,hi,hm=>by
  have hlt:i<l.length:=by omega
  have hb:=hp _ (da hlt);have ih:=aUr hN l g y hp hl k (i+1) m (by omega) (by omega);have ev:pv l (i+1)=some l[i]:=ε hlt;rw[ev]at ih;rw[bKy];unfold lC;rw[aF (decide_eq_true (by omega)),bJ (ε hlt),gP hlt,ckl,aP1 _ g y hN hb,aB];have fin:∀b:Bool,(bd? (some ((i:Int),b,g,y,l)) fun w12=>if? (w12.2.1) (some 1) (ck .i64 ((w12.1+1)) (eI N m (w12.1+1) w12.2.2.1 w12.2.2.2.1 w12.2.2.2.2)))=some (if b then 1 else ckl g y (some l[i]) (l.drop (i+1))):=fun b=>by
   rw[aB];dsimp only;cases b with
   |true=>rw[aN];rfl
   |false=>
    rw[aK,aM (by omega) (by omega),show((i:Int)+1)=((i+1:Nat):Int) by omega,ih];rfl
  cases i with
  |zero=>
   cases hx:hr l[0] g y with
   |true=>
    rw[c8,aK,aE (decide_eq_false (by omega))];show _=some (if(!hr l[0] g y)then 1 else _);rw[hx];exact fin false
   |false=>
    rw[fy,aN];show _=some (if(!hr l[0] g y)then 1 else _);rw[hx];exact fin true
  |succ j=>
   have hj:j<l.length:=by omega
   have ev:pv l (j+1)=some l[j]:=ε hj;rw[ev,bad];cases hx:hr l[j+1] g y with
   |true=>
    rw[c8,aK,aF (decide_eq_true (by omega)),bJ (ε hlt),aM (by omega) (by omega),show(((j+1:Nat):Int)-1)=(j:Int) by omega,bJ (ε hj),Bool.false_or];exact fin _
   |false=>
    rw[fy,aN,Bool.true_or];exact fin true
theorem aB7(hN:5000<=N)(f:Fo)(hp:∀x∈f.2.2,x.length<=1000):bT N f=some (chk f):=by
 unfold bT chk;have fin:¬(f.1<0\/f.1≥40\/f.2.1<2000\/f.2.1≥2040)->(if? (decide (((f.2.2.length:Nat):Int)>1000)) (some (2:Int)) (fQ N N f.2.2 ((f.2.2.length:Nat):Int) 0 f.1 f.2.1 f.2.2))=some (if f.2.2.length>1000 then 2 else ckl f.1 f.2.1 none f.2.2):=fun _=>by
  by_cases h:f.2.2.length>1000
  ·rw[aF (decide_eq_true (by omega)),if_pos h]
  ·rw[aE (decide_eq_false (by omega)),if_neg h];have:=aUa hN f.2.2 f.1 f.2.1 hp (by omega) f.2.2.length 0 N (by omega) (by omega);rw[cc]at this;exact this
 by_cases h1:f.1<0
 ·rw[aF (decide_eq_true h1),aB,if_pos (.inl h1)];rfl
 ·rw[aE (decide_eq_false h1)];by_cases h2:f.1≥40
  ·rw[aF (decide_eq_true h2),aB,if_pos (.inr (.inl h2))];rfl
  ·rw[aE (decide_eq_false h2)];by_cases h3:f.2.1<2000
   ·rw[aF (decide_eq_true h3),aB,if_pos (.inr (.inr (.inl h3)))];rfl
   ·rw[aE (decide_eq_false h3),aB];dsimp only;by_cases h4:f.2.1≥2040
    ·rw[aF (decide_eq_true h4),if_pos (.inr (.inr (.inr h4)))]
    ·rw[aE (decide_eq_false h4),if_neg (by omega)];exact fin (by omega)
theorem aNo(hN:5000<=N)(f:Fo)(hp:∀x∈f.2.2,x.length<=1000):cI N f=some (chk f):=by
 unfold cI chk;have fin:(if? (decide (((f.2.2.length:Nat):Int)>1000)) (some (2:Int)) (eI N N 0 f.1 f.2.1 f.2.2))=some (if f.2.2.length>1000 then 2 else ckl f.1 f.2.1 none f.2.2):=by
  by_cases h:f.2.2.length>1000
  ·rw[aF (decide_eq_true (by omega)),if_pos h]
  ·rw[aE (decide_eq_false (by omega)),if_neg h];have:=aUr hN f.2.2 f.1 f.2.1 hp (by omega) f.2.2.length 0 N (by omega) (by omega);rw[cc]at this;exact this
 by_cases h1:f.1<0
 ·rw[aF (decide_eq_true h1),aB,if_pos (.inl h1)];rfl
 ·rw[aE (decide_eq_false h1)];by_cases h2:f.1>39
  ·rw[aF (decide_eq_true h2),aB,if_pos (.inr (.inl (by omega)))];rfl
  ·rw[aE (decide_eq_false h2)];by_cases h3:f.2.1<2000
   ·rw[aF (decide_eq_true h3),aB,if_pos (.inr (.inr (.inl h3)))];rfl
   ·rw[aE (decide_eq_false h3),aB];dsimp only;by_cases h4:f.2.1>2039
    ·rw[aF (decide_eq_true h4),if_pos (.inr (.inr (.inr (by omega))))]
    ·rw[aE (decide_eq_false h4),if_neg (by omega)];exact fin
end Go.Proofs.Tryz

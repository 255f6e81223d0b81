/- Texts of this claim. -/
import Derived.Test.YtoklpgfaedjjpaaGreatDoorLA
import Derived.Test.YtoklpgfaedjjpaaGreatDoorLP
import Derived.Lib.Varint
import Derived.Lib.BitFns
import Derived.Laws.Bits64
import Derived.Test.YtoklpgfaedjjpaaGreatDoorYB
open BitVec renaming ofInt_natCast->abK,toNat_ofNat->abX
open Bool renaming and_eq_true->μ,eq_iff_iff->aa9,not_false->abF,not_true->aaQ,true_and->acr
open Go.IntKind renaming wrap->δ
open Int renaming toNat_natCast->χ
open List renaming append_assoc->π,append_nil->aag,drop->aaD,drop_eq_getElem_cons->aaJ,drop_of_length_le->aaC,drop_zero->aaB,filter_sublist->ab5,getElem?_eq_getElem->ν,getElem_mem->abM,length_append->ε,length_cons->aaf,length_drop->aat,length_map->κ,length_nil->aaE,length_take->aao,map_cons->aaM,map_nil->acH,mem_append->aau,mem_cons->ω,mem_cons_of_mem->aab,mem_cons_self->aap,mem_filter->ξ,mem_map->aaS,mem_singleton->aai,nil_append->aa8,not_mem_nil->aa7,pairwise_cons->aax,pairwise_iff_getElem->abU,take->aaq,take_length->acM,take_of_length_le->aav,take_succ_eq_append_getElem->abz
open Nat renaming le_refl->me,le_trans->aaG,mul_le_mul_right->aaF,not_lt_zero->aah,pow_le_pow_right->abb
set_option linter.all false
set_option maxRecDepth 8000
set_option synthInstance.maxSize 100000
set_option synthInstance.maxHeartbeats 400000
namespace Go.Proofs.Tryz
open Go.Eng Go.RowKit Go.Lib
theorem OR{x:Int}(h:0<=x)(h':x<18446744073709551616):δ .u64 x=x:=by rw[IntKind.wrap_u64];omega
def Dz(n:Int):Prop:=-9223372036854775808<=n/\n<=9223372036854775807
theorem bBk(s:cc)(i:Nat):(cJ s)[i]?=(s[i]?).map fun c=>(c.toNat:Int):=by unfold cJ;rw[List.getElem?_map]
def EE(z:Nat):Int:=if z%2=0 then((z/2:Nat):Int)else-((z/2:Nat):Int)-1
def qk:Nat->Nat->cc->Int×Int×Int
 |_,_,[]=>(0,0,10)
 |k,z,c::r=>if(k=9/\1<c.toNat)\/(0<k/\c.toNat=0)then(0,0,11)else if c.toNat<128 then(EE (z+c.toNat%128*128^k),((k+1:Nat):Int),0)else qk (k+1) (z+c.toNat%128*128^k) r
theorem Nd(n:Int)(h₀:0<=n)(h₁:n<2^64):IntKind.u64.wrap n=n:=by rw[IntKind.wrap_u64];omega
theorem X0(x b:Nat)(hx:x<9223372036854775808)(hb:b<2):bits .xor .i64 (x:Int) (-(b:Int))=if b=0 then(x:Int)else-(x:Int)-1:=by
 obtain rfl|rfl:b=0\/b=1:=by omega
 ·simp only[bits,if_pos];rw[show(-((0:Nat):Int))=((0:Nat):Int)from rfl,abK,abK,BitVec.toNat_xor,abX,abX];rw[show(0%2^IntKind.i64.bits)=0 from rfl,Nat.xor_zero,IntKind.wrap_i64,show IntKind.i64.bits=64 from rfl];omega
 ·rw[if_neg (by decide)];simp only[bits];have hone:BitVec.ofInt IntKind.i64.bits (-((1:Nat):Int))=BitVec.allOnes IntKind.i64.bits:=by decide
  rw[hone,abK,BitVec.xor_allOnes,BitVec.toNat_not,abX,IntKind.wrap_i64,show IntKind.i64.bits=64 from rfl];omega
theorem F1(z k c:Nat)(hz:z<128^k)(hk:k<=9)(hc:c<256)(h9:k=9->c<=1):
  bits .or .u64 (z:Int) (δ .u64 ((δ .u64 ((bits .and .u8 (c:Int) 127)))*2^(7*(k:Int)).toNat))=((z+c%128*128^k:Nat):Int)/\z+c%128*128^k<18446744073709551616/\(k<9->z+c%128*128^k<128^(k+1)):=by
 have p9:128^k<=9223372036854775808:=aaG (abb (by decide) hk) (by decide);have hm:c%128<128:=Nat.mod_lt _ (by decide);have hb:z+c%128*128^k<18446744073709551616/\(k<9->z+c%128*128^k<128^(k+1)):=by
  have e:128^(k+1)=128^k*128:=rfl;have h1:c%128*128^k<=127*128^k:=aaF _ (by omega);refine⟨?_,fun _=>by omega⟩;by_cases h:k=9
  ·subst h;have h2:c%128*128^9<=1*128^9:=aaF _ (by have:=h9 rfl;omega);omega
  ·have p8:128^k<=72057594037927936:=aaG (abb (by decide) (show k<=8 by omega)) (by decide);omega
 refine⟨?_,hb⟩;have e1:bits .and .u8 (c:Int) 127=((c%128:Nat):Int):=by have:=bits_mask .u8 8 (by decide) wraps_u8 7 (by decide) (c:Int) (by omega) (by omega);rw[show((2:Int)^7-1)=127 from rfl]at this;rw[this];omega
 have e2:(2:Int)^(7*(k:Int)).toNat=((128^k:Nat):Int):=by rw[show(7*(k:Int)).toNat=7*k by omega,Int.pow_mul];simp
 have hx:c%128*128^k<18446744073709551616:=by omega
 rw[e1,OR (x:=((c%128:Nat):Int)) (by omega) (by omega),e2,<-Int.natCast_mul,OR (x:=((c%128*128^k:Nat):Int)) (by omega) (by omega),(bits_nat .u64 64 (by decide) Nd _ _ (by omega) (by omega)).2];congr 1;have e3:128^k=2^(7*k):=by rw[Nat.pow_mul]
 rw[e3]at hz|-;have:=Nat.shiftLeft_add_eq_or_of_lt hz (c%128);rw[Nat.shiftLeft_eq]at this;rw[Nat.or_comm,<-this,Nat.add_comm]
def uv:Nat->Nat->cc->tg⊕TN
 |_,z,[]=>.inr ((z:Int),0)
 |k,z,c::r=>if(k=9/\1<c.toNat)\/(0<k/\c.toNat=0)then .inl (0,(0,11))else if c.toNat<128 then .inr (((z+c.toNat%128*128^k:Nat):Int),((k+1:Nat):Int))else uv (k+1) (z+c.toNat%128*128^k) r
def Fy:tg⊕TN->Int×Int×Int
 |.inl r=>r
 |.inr v=>if v.2=0 then(0,0,10)else(EE v.1.toNat,v.2,0)
theorem JH:∀(r:cc) (k z:Nat),Fy (uv k z r)=qk k z r
 |[],k,z=>rfl
 |c::r,k,z=>by
  rw[uv,qk];by_cases h:(k=9/\1<c.toNat)\/(0<k/\c.toNat=0)
  ·rw[if_pos h,if_pos h];rfl
  ·rw[if_neg h,if_neg h];by_cases h2:c.toNat<128
   ·rw[if_pos h2,if_pos h2];unfold Fy;dsimp only;rw[if_neg (by omega),χ]
   ·rw[if_neg h2,if_neg h2];exact JH r _ _
theorem Jk:∀(r:cc) (k z:Nat) (v:Int×Int),k<=9->z<128^k->uv k z r=.inr v->∃y:Nat,v.1=(y:Int)/\y<18446744073709551616/\∃u:Nat,v.2=(u:Int)
 |[],k,z,v,hk,hz,h=>by
  cases h;have p9:128^k<=9223372036854775808:=aaG (abb (by decide) hk) (by decide);exact⟨z,rfl,by omega,0,rfl⟩
 |c::r,k,z,v,hk,hz,h=>by
  rw[uv]at h;have hcl:=c.toNat_lt;by_cases hb:(k=9/\1<c.toNat)\/(0<k/\c.toNat=0)
  ·rw[if_pos hb]at h;cases h
  ·rw[if_neg hb]at h;obtain⟨_,h2,h3⟩:=F1 z k c.toNat hz hk (by omega) (by omega);by_cases hh:c.toNat<128
   ·rw[if_pos hh]at h;cases h;exact⟨_,rfl,h2,k+1,rfl⟩
   ·rw[if_neg hh]at h;exact Jk r (k+1) _ v (by omega) (h3 (by omega)) h
theorem OT(m:Nat):iU (m+1)=lU (iU m):=rfl
theorem MU(s:cc):∀(r:cc) (k z m:Nat),s.drop k=r->k<=9->z<128^k->10<m+k->iU m (z:Int) 0 (cJ s) (((cJ s).length:Nat):Int) (k:Int)=some (uv k z r)
 |r,k,z,0,_,_,_,h=>by omega
 |[],k,z,m+1,hr,hk,hz,hm=>by
  have:s.length<=k:=by have:=congrArg List.length hr;rw[aat,aaE]at this;omega
  rw[OT];unfold lU;rw[FC,aC (decide_eq_false (by omega))];rfl
 |c::r,k,z,m+1,hr,hk,hz,hm=>by
  have hlen:k<s.length:=by have:=congrArg List.length hr;rw[aat,aaf]at this;omega
  have hc:s[k]=c:=by have:=congrArg (·[0]?) hr;simp only[List.getElem?_drop,Nat.add_zero,List.getElem?_cons_zero]at this;rw[ν hlen]at this;exact Option.some.inj this
  have hr':s.drop (k+1)=r:=by have:=congrArg List.tail hr;rw[List.tail_drop]at this;exact this
  have hcl:=c.toNat_lt;have hget:(cJ s)[k]?=some (c.toNat:Int):=by rw[bBk,ν hlen,hc];rfl
  have jf:=fun z' h1 h2 h3=>MU s r (k+1) z' m hr' h1 h2 h3;rw[OT,uv];unfold lU;rw[FC]at jf|-;rw[aD (decide_eq_true (by omega)),cU hget];generalize hcn:c.toNat=d at*;by_cases hbad:(k=9/\1<d)\/(0<k/\d=0)
  ·rw[if_pos hbad];by_cases h9:k=9
   ·subst h9;rw[show(((9:Nat):Int)==9)=true from rfl,pF,aE];dsimp only;by_cases h1:1<d
    ·rw[aD (decide_eq_true (by omega)),aE];rfl
    ·have h0:d=0:=by omega
     subst h0;rfl
   ·have hd:0<k/\d=0:=by omega
    rw[show((k:Int)==9)=false by rw[beq_eq_false_iff_ne];omega,fG,aE];dsimp only;rw[fG,aD (decide_eq_true (by omega)),aE];dsimp only;rw[show((d:Int)==0)=true by rw[beq_iff_eq];omega,pF];rfl
  ·rw[if_neg hbad];obtain⟨e1,e2,e3⟩:=F1 z k d hz hk (by omega) (by omega);have fin:∀x:Bool,x=false->(bc (some ((z:Int),(0:Int),(k:Int),(d:Int),cJ s,(s.length:Int),(k:Int),x)) fun w10=>bf (w10.2.2.2.2.2.2.2) (zL (some ((0,(0,11))))) (ck .i64 ((7*w10.2.2.1)) (az ((0<=(7*w10.2.2.1))) (az (((7*w10.2.2.1)<=(((IntKind.bits .u64):Nat):Int))) (bf (decide (w10.2.2.2.1<128)) (ck .i64 ((w10.2.2.1+1)) (some (.inr ((bits .or .u64 w10.1 (δ .u64 ((δ .u64 (bits .and .u8 w10.2.2.2.1 127))*(2^(7*w10.2.2.1).toNat)))),(w10.2.2.1+1))))) (ck .i64 ((w10.2.2.2.2.2.2.1+1)) (iU m (bits .or .u64 w10.1 (δ .u64 ((δ .u64 (bits .and .u8 w10.2.2.2.1 127))*(2^(7*w10.2.2.1).toNat)))) w10.2.1 w10.2.2.2.2.1 w10.2.2.2.2.2.1 (w10.2.2.2.2.2.2.1+1))))))))=some (if d<128 then .inr (((z+d%128*128^k:Nat):Int),((k+1:Nat):Int))else uv (k+1) (z+d%128*128^k) r):=by
    intro x hx;subst hx;rw[aE];dsimp only;rw[fG,aI (by omega) (by omega),aB (by omega),aB (by show _<=((64:Nat):Int);omega),e1];by_cases hh:d<128
    ·rw[aD (decide_eq_true (by omega)),aI (by omega) (by omega),if_pos hh,show(k:Int)+1=((k+1:Nat):Int) by omega]
    ·rw[aC (decide_eq_false (by omega)),aI (by omega) (by omega),if_neg hh,show(k:Int)+1=((k+1:Nat):Int) by omega];exact jf _ (by omega) (e3 (by omega)) (by omega)
   by_cases h9:k=9
   ·rw[show((k:Int)==9)=true by rw[beq_iff_eq];omega,pF,aE];dsimp only;rw[aC (decide_eq_false (by omega)),aD (decide_eq_true (by omega))];exact fin _ (by rw[beq_eq_false_iff_ne];omega)
   ·rw[show((k:Int)==9)=false by rw[beq_eq_false_iff_ne];omega,fG,aE];dsimp only;rw[fG];by_cases h0:0<k
    ·rw[aD (decide_eq_true (by omega))];exact fin _ (by rw[beq_eq_false_iff_ne];omega)
    ·rw[aC (decide_eq_false (by omega))];exact fin _ rfl
def gi(s:cc):Int×Int×Int:=qk 0 0 s
theorem RV{N:Nat}(hN:11<=N)(s:cc):gY N (cJ s)=some (gi s):=by
 unfold gY;have h:=MU s s 0 0 N rfl (by omega) (by decide) (by omega);rw[show(((0:Nat):Int))=0 from rfl]at h;rw[h];unfold gi;rw[<-JH];cases e:uv 0 0 s with
 |inl r=>rfl
 |inr v=>
  obtain⟨y,h1,h2,u,h3⟩:=Jk s 0 0 v (by omega) (by decide) e;obtain⟨a,b⟩:=v;dsimp only at h1 h3;subst h1 h3;rw[Zn];dsimp only[Fy];by_cases hu:u=0
  ·subst hu;rfl
  ·have e5:bits .and .u64 (y:Int) 1=((y%2:Nat):Int):=by have:=bits_mask .u64 64 (by decide) Nd 1 (by decide) (y:Int) (by omega) (by omega);rw[show((2:Int)^1-1)=1 from rfl]at this;rw[this];omega
   have e4:(y:Int)/2^1=((y/2:Nat):Int):=rfl;rw[aC (by rw[beq_eq_false_iff_ne];omega),e5,e4,Ab (n:=((y%2:Nat):Int)) (by omega) (by omega),Ab (n:=((y/2:Nat):Int)) (by omega) (by omega),aI (by omega) (by omega),X0 _ _ (by omega) (by omega),if_neg (show¬((u:Int)=0) by omega),χ];rfl
set_option maxRecDepth 8000
set_option synthInstance.maxSize 100000
set_option synthInstance.maxHeartbeats 400000
theorem bIh{z:Nat}(h:z<18446744073709551616):Dz (EE z):=by unfold EE Dz;split<;>omega
theorem Lu:∀(s:cc) (k z:Nat),k<=9->z<128^k->(((qk k z s).2.2=0/\∃u:Nat,(qk k z s).2.1=(u:Int)/\k+1<=u/\u<=k+s.length/\u<=10/\Dz (qk k z s).1)\/((qk k z s).1=0/\(qk k z s).2.1=0/\((qk k z s).2.2=10\/(qk k z s).2.2=11)))
 |[],k,z,_,_=>.inr ⟨rfl,rfl,.inl rfl⟩
 |c::s,k,z,hk,hz=>by
  rw[qk];by_cases hb:(k=9/\1<c.toNat)\/(0<k/\c.toNat=0)
  ·rw[if_pos hb];exact .inr ⟨rfl,rfl,.inr rfl⟩
  ·rw[if_neg hb];have hcl:=c.toNat_lt;obtain⟨_,h2,h3⟩:=F1 z k c.toNat hz hk (by omega) (by omega);by_cases hh:c.toNat<128
   ·rw[if_pos hh];exact .inl ⟨rfl,k+1,rfl,by omega,by simp only[aaf];omega,by omega,bIh h2⟩
   ·rw[if_neg hh];have hk9:k<9:=by omega
    rcases Lu s (k+1) _ (by omega) (h3 hk9)with⟨e,u,h1,h2,h3,h4,h5⟩|h
    ·exact .inl ⟨e,u,h1,by omega,by simp only[aaf];omega,h4,h5⟩
    ·exact .inr h
theorem UT(s:cc):((gi s).2.2=0/\∃u:Nat,(gi s).2.1=(u:Int)/\1<=u/\u<=s.length/\u<=10/\Dz (gi s).1)\/((gi s).1=0/\(gi s).2.1=0/\((gi s).2.2=10\/(gi s).2.2=11)):=by
 rcases Lu s 0 0 (by omega) (by decide)with⟨e,u,h1,h2,h3,h4,h5⟩|h
 ·exact .inl ⟨e,u,h1,by omega,by omega,h4,h5⟩
 ·exact .inr h
def xQ(s:cc):Int×Int×Int:=
 if(gi s).2.2≠0 then(0,0,(gi s).2.2)else if(gi s).1<0 then(0,0,11)else if(gi s).1>(s.length:Int)-(gi s).2.1 then(0,0,10)else((gi s).1,(gi s).2.1,0)
theorem Wg{a b:Int}(h:a=b):(a !=b)=false:=by rw[bne_eq_false_iff_eq];exact h
theorem Vg{a b:Int}(h:a≠b):(a !=b)=true:=by rw[bne_iff_ne];exact h
theorem length_eq{N:Nat}(hN:11<=N)(s:cc)(hs:s.length<=1000000):jA N (cJ s) 1=some (xQ s):=by
 unfold jA xQ;rw[RV hN,aE,FC];rcases UT s with⟨e,u,h1,h2,h3,h4,h5⟩|⟨h1,h2,h3⟩
 ·obtain⟨b1,b2⟩:=h5;rw[Wg e,fG,if_neg (by rw[e];simp),h1,Int.tdiv_one];by_cases hn:(gi s).1<0
  ·rw[aD (decide_eq_true hn),if_pos hn]
  ·rw[aC (decide_eq_false hn),if_neg hn,aI (by omega) (by omega),aB (by decide),aI (by omega) (by omega)];by_cases hg:(gi s).1>(s.length:Int)-(u:Int)
   ·rw[aD (decide_eq_true hg),if_pos hg]
   ·rw[aC (decide_eq_false hg),if_neg hg]
 ·have hne:(gi s).2.2≠0:=by omega
  rw[Vg hne,pF,if_pos hne]
def JC:Nat->cc->Int->List Int->List Int×Int×Int
 |0,_,a,acc=>(acc,a,0)
 |n+1,r,a,acc=>if(gi r).2.2≠0 then([],0,(gi r).2.2)else JC n (r.drop (gi r).2.1.toNat) (a+(gi r).2.1) (acc++[(gi r).1])
def sj(s:cc):List Int×Int×Int:=if(xQ s).2.2≠0 then([],0,(xQ s).2.2)else JC (xQ s).1.toNat (s.drop (xQ s).2.1.toNat) (xQ s).2.1 []
def BQ(s:cc):cc×Int×Int:=if(xQ s).2.2≠0 then([],0,(xQ s).2.2)else((s.drop (xQ s).2.1.toNat).take (xQ s).1.toNat,(xQ s).2.1+(xQ s).1,0)
def JZ:Nat->cc->Int->List cc->List cc×Int×Int
 |0,_,a,acc=>(acc,a,0)
 |n+1,r,a,acc=>if(BQ r).2.2≠0 then([],0,(BQ r).2.2)else JZ n (r.drop (BQ r).2.1.toNat) (a+(BQ r).2.1) (acc++[(BQ r).1])
def Hk(s:cc):List cc×Int×Int:=if(xQ s).2.2≠0 then([],0,(xQ s).2.2)else JZ (xQ s).1.toNat (s.drop (xQ s).2.1.toNat) (xQ s).2.1 []
def hd(s:cc)(k:Int)(c:Nat)(more:Bool):Option (List Int×List cc):=
 if(sj s).2.2=0/\(sj s).1.length=c/\(sj s).1.getD 0 0=k then
  if more=true then
   if(Hk (s.drop (sj s).2.1.toNat)).2.2=0/\(sj s).2.1+(Hk (s.drop (sj s).2.1.toNat)).2.1=(s.length:Int)then some ((sj s).1,(Hk (s.drop (sj s).2.1.toNat)).1)else none
  else if(sj s).2.1=(s.length:Int)then some ((sj s).1,[])else none
 else none
abbrev Rd:=Int×(Int×(Int×tg))
abbrev Pt:=Int×TM
def vl(v:Vr):List Int:=[2,v.1,v.2.1,v.2.2.1,v.2.2.2.1,v.2.2.2.2.1,v.2.2.2.2.2.1,v.2.2.2.2.2.2.1]
abbrev vp(v:Vr):List Pt:=v.2.2.2.2.2.2.2
end Go.Proofs.Tryz
set_option maxRecDepth 8000
set_option synthInstance.maxSize 100000
set_option synthInstance.maxHeartbeats 400000
namespace Go.Proofs.Tryz
open Go.Eng Go.RowKit Go.Nt
variable{N:Nat}{l a b p3:List Rd}{vs p4:List Vr}{x y:Rd}{α β:Type}{d:Int}{c:Bool}
theorem uy{a b:Bool}:bf a (some b) (some false)=some (a&&b):=by cases a<;>rfl
theorem CD(P:List α)(c:α)(R:List α):(P++c::R)[P.length]?=some c:=by rw[List.getElem?_append_right (me _),Nat.sub_self];rfl
def wi(n lo hi:Int):Bool:=decide (n≥lo)&&decide (n<=hi)
theorem bOt(N:Nat)(a b c:Int):dY N a b c=some (wi a b c):=by unfold dY;rw[uy,aE];rfl
def rr(r:Rd):Bool:=wi r.1 0 39&&(wi r.2.1 0 1099511627776&&(decide (r.2.2.1≥0)&&(decide (r.2.2.1<r.2.2.2.1)&&(decide (r.2.2.2.1<=1402560)&&(wi r.2.2.2.2.1 0 1000&&wi r.2.2.2.2.2 0 14609)))))
theorem Qb(N:Nat)(r:Rd):gN N r=some (rr r):=by unfold gN;simp only[bOt,aE,uy];rfl
theorem FM(m:Nat):rJ (m+1)=rE (rJ m):=rfl
theorem or2(hN:3<=N)(a b:Int):qH N [a,b]=some (if a≠0 then a else b):=by
 obtain⟨m,rfl⟩:∃m,N=m+3:=⟨N-3,by omega⟩;unfold qH;rw[FM,FM,FM];unfold rE;rw[aD (by rfl),kX (x:=a) (by decide) rfl];by_cases ha:a=0
 ·rw[aC (by rw[bne_eq_false_iff_eq];exact ha),aI (by decide) (by decide),aD (by rfl),kX (x:=b) (by decide) rfl,if_neg (by omega)];by_cases hb:b=0
  ·rw[aC (by rw[bne_eq_false_iff_eq];exact hb),aI (by decide) (by decide),aC (by rfl),hb]
  ·rw[aD (by rw[bne_iff_ne];exact hb)]
 ·rw[aD (by rw[bne_iff_ne];exact ha),if_pos ha]
def ph(x y:Rd):Int:=if jT x.1 y.1≠0 then jT x.1 y.1 else jT x.2.1 y.2.1
theorem Kd(hN:3<=N)(x y:Rd):eK N x y=some (ph x y):=by unfold eK;rw[zZ,aE,zZ,aE,or2 hN,aE];rfl
def k9(x y:Rd):Prop:=x.1<y.1\/(x.1=y.1/\x.2.1<y.2.1)
def j8(x y:Rd):Prop:=x.1=y.1/\x.2.1=y.2.1
theorem KI:ph x y<0↔k9 x y:=by
 unfold ph jT k9
 repeat' split
 all_goals omega
theorem Um:ph x y>0↔k9 y x:=by
 unfold ph jT k9
 repeat' split
 all_goals omega
theorem Uf:ph x y=0↔j8 x y:=by
 unfold ph jT j8
 repeat' split
 all_goals omega
theorem Ag{z:Rd}(h:k9 x y)(h':k9 y z):k9 x z:=by unfold k9 at*;omega
theorem Jd(h:k9 x y)(h':j8 x y):False:=by unfold k9 j8 at*;omega
theorem Gj(h:k9 x y)(h':j8 y x):False:=by unfold k9 j8 at*;omega
theorem yK(h:j8 x y):j8 y x:=⟨h.1.symm,h.2.symm⟩
abbrev qm(l:List Rd):Prop:=l.Pairwise k9
def td:Rd->List Rd->Bool
 |_,[]=>true
 |c,y::r=>rr y&&(decide (ph c y<0)&&td y r)
def GR:List Rd->Bool
 |[]=>true
 |x::r=>rr x&&td x r
theorem IB(N m:Nat):jP N (m+1)=gU N (jP N m):=rfl
theorem Nf{N n:Nat}(hN:3<=N)(hn:n<=100000):∀(R:List Rd) (m:Nat) (P:List Rd) (c:Rd),R.length<m->P.length+1+R.length=n->
  jP N m (P++c::R) (P++c::R) (n:Int) ((P.length+1:Nat):Int)=some (if td c R then 0 else 1)
 |_,0,_,_,h,_=>absurd h (aah _)
 |[],m+1,P,c,hm,h3=>by
  have h3:P.length+1=n:=h3;rw[IB];unfold gU;rw[aC (decide_eq_false (by omega))];rfl
 |y::R,m+1,P,c,hm,h3=>by
  have lr:(y::R).length=R.length+1:=rfl;rw[lr]at h3 hm;have r1:P++(c::y::R)=(P++[c])++y::R:=by simp
  have l1:(P++[c]).length=P.length+1:=by simp
  have g1:(P++(c::y::R))[P.length+1]?=some y:=by rw[r1,<-l1];exact CD _ y _
  have g2:(P++(c::y::R))[P.length]?=some c:=CD P c _;have nxt:=Nf hN hn R m (P++[c]) y (by omega) (by rw[l1];omega);rw[l1,<-r1]at nxt;have e1:((P.length+1:Nat):Int)-1=(P.length:Int):=by omega
  rw[IB];unfold gU;rw[aD (decide_eq_true (by omega)),cU g1];show bc (bc (gN N y) _) _=_;rw[Qb,aE];show _=some (if rr y&&(decide (ph c y<0)&&td y R)then 0 else 1);cases hr:rr y with
  |false=>rfl
  |true=>
   rw[aaQ,fG,aD (decide_eq_true (by omega)),e1,aI (by omega) (by omega),cU g2];show bc (bc (eK N c y) _) _=_;rw[Kd hN,aE,aE];dsimp only;by_cases hlt:ph c y<0
   ·rw[aC (decide_eq_false (by omega)),aI (by omega) (by omega),show((P.length+1:Nat):Int)+1=((P.length+1+1:Nat):Int) by omega,nxt,decide_eq_true hlt];rfl
   ·rw[aD (decide_eq_true (by omega)),decide_eq_false hlt];rfl
def ra(l:List Rd):Int:=if l.length>4000 then 2 else if GR l then 0 else 1
theorem HW(hN:4005<=N):iW N l=some (ra l):=by
 unfold iW ra;by_cases hl:l.length>4000
 ·rw[aD (decide_eq_true (by omega)),if_pos hl]
 ·rw[aC (decide_eq_false (by omega)),if_neg hl];obtain⟨m,rfl⟩:∃m,N=m+1:=⟨N-1,by omega⟩;rw[IB];unfold gU;cases l with
  |nil=>rfl
  |cons x R=>
   have lr:(x::R).length=R.length+1:=rfl;rw[lr]at hl;have nxt:=Nf (N:=m+1) (n:=R.length+1) (by omega) (by omega) R m [] x (by omega) (by show 0+1+_=_;omega);rw[aD (decide_eq_true (by rw[lr];omega)),kX (x:=x) (by decide) rfl];show bc (bc (gN (m+1) x) _) _=_;rw[Qb,aE];show _=some (if rr x&&td x R then 0 else 1);cases hr:rr x with
   |false=>rfl
   |true=>
    rw[aaQ,fG,aC (by rfl),aE];dsimp only;rw[fG,aI (by decide) (by decide)];exact nxt
theorem KE:∀(R:List Rd) (c:Rd),td c R=true↔(∀y∈R,rr y=true)/\qm (c::R)
 |[],c=>by simp[td]
 |y::R,c=>by
  show(rr y&&(decide (ph c y<0)&&td y R))=true↔_;rw[μ,μ,decide_eq_true_eq,KI,KE R y];constructor
  ·rintro⟨h1,h2,h3,h4⟩;refine⟨fun z hz=>?_,aax.2 ⟨fun z hz=>?_,h4⟩⟩
   ·rcases ω.1 hz with rfl|hz
    ·exact h1
    ·exact h3 z hz
   ·rcases ω.1 hz with rfl|hz
    ·exact h2
    ·exact Ag h2 ((aax.1 h4).1 z hz)
  ·rintro⟨h1,h2⟩;have h2:=aax.1 h2;exact⟨h1 y aap,h2.1 y aap,fun z hz=>h1 z (aab _ hz),h2.2⟩
theorem T5(l:List Rd):GR l=true↔(∀y∈l,rr y=true)/\qm l:=by
 cases l with
 |nil=>simp[GR]
 |cons x R=>
  show(rr x&&td x R)=true↔_;rw[μ,KE];constructor
  ·rintro⟨h1,h2,h3⟩;refine⟨fun z hz=>?_,h3⟩;rcases ω.1 hz with rfl|hz
   ·exact h1
   ·exact h2 z hz
  ·rintro⟨h1,h2⟩;exact⟨h1 x aap,fun z hz=>h1 z (aab _ hz),h2⟩
theorem zQ(l:List Rd):ra l=0↔l.length<=4000/\(∀y∈l,rr y=true)/\qm l:=by
 unfold ra;rw[<-T5];split
 ·constructor
  ·intro h;cases h
  ·rintro⟨h,_⟩;omega
 ·split
  ·rename_i h1 h2;exact⟨fun _=>⟨by omega,h2⟩,fun _=>rfl⟩
  ·rename_i h1 h2;exact⟨fun h=>(by cases h),fun h=>absurd h.2 h2⟩
def rep(x y:Rd):Prop:=x.1=y.1/\x.2.1=y.2.1/\x.2.2.1=y.2.2.1/\x.2.2.2.1=y.2.2.2.1/\x.2.2.2.2.1=y.2.2.2.2.1
instance(x y:Rd):Decidable (rep x y):=inferInstanceAs (Decidable (_/\_))
theorem aWm(N:Nat)(x y:Rd):fJ N x y=some (decide (rep x y)):=by unfold fJ;obtain⟨a,b,c,d,e,f⟩:=x;obtain⟨a',b',c',d',e',f'⟩:=y;refine congrArg some ?_;rw[aa9,decide_eq_true_eq];unfold rep;simp[lZ]
def RC(a b:List Rd):Prop:=∀x∈a,∀y∈b,j8 x y->rep x y
def ur(x y:Rd):Rd:=(x.1,(x.2.1,(x.2.2.1,(x.2.2.2.1,(x.2.2.2.2.1,Min.min x.2.2.2.2.2 y.2.2.2.2.2)))))
def Jn(a b:List Rd)(x:Rd):Prop:=(x∈a/\∀y∈b,¬j8 x y)\/(x∈b/\∀y∈a,¬j8 x y)\/∃y∈a,∃z∈b,j8 y z/\x=ur y z
theorem HZ(h:Jn a b x):∃y,(y∈a\/y∈b)/\j8 x y:=by
 rcases h with⟨h,_⟩|⟨h,_⟩|⟨y,h,z,_,_,rfl⟩
 ·exact⟨x,.inl h,rfl,rfl⟩
 ·exact⟨x,.inr h,rfl,rfl⟩
 ·exact⟨y,.inl h,rfl,rfl⟩
theorem HC{z:Rd}(h:k9 x y)(h':j8 z y):k9 x z:=by unfold k9 j8 at*;omega
def Be(xs:List Rd):Option (Int×List Rd):=if xs.length>4000 then some (2,[])else some (0,xs)
theorem Pw(N m:Nat):cK N (m+1)=jH N (cK N m):=rfl
theorem EJ(x:α)(l:List α):aaq ((x::l).length-1) (aaD 1 (x::l))=l:=by show l.take (l.length+1-1)=l;rw[Nat.add_sub_cancel,acM]
theorem MY{m:Nat}{out:List Rd}(h0:a=[]\/b=[])(hl:out.length+a.length+b.length<=100000):cK N (m+1) a b out=Be (out++(a++b)):=by
 rw[Pw];unfold jH;have hc':(bf (decide (((a.length:Nat):Int)>0)) (aw (out.length) (out) (some (a,b,decide (((b.length:Nat):Int)>0),out))) (aw (out.length) (out) (some (a,b,false,out))))=some (a,b,false,out):=by
  rcases h0 with rfl|rfl
  ·rw[aC (by rfl),aG]
  ·cases a with
   |nil=>rw[aC (by rfl),aG]
   |cons x a=>rw[aD (decide_eq_true (by simp only[aaf];omega)),aG];rfl
 rw[hc',aE];dsimp only;rw[fG,aG,aB (by omega),aG,aB (by rw[ε];omega),aG];unfold Be;rw[<-π];by_cases h:(out++a++b).length>4000
 ·rw[aD (decide_eq_true (by omega)),if_pos h]
 ·rw[aC (decide_eq_false (by omega)),if_neg h]
theorem DB{N:Nat}(hN:3<=N):∀(n m:Nat) (a b out:List Rd),a.length+b.length<=n->n<m->out.length+a.length+b.length<=100000->qm a->qm b->
  (¬RC a b/\cK N m a b out=some (24,[]))\/(RC a b/\∃L,qm L/\(∀x,x∈L↔Jn a b x)/\L.length<=a.length+b.length/\cK N m a b out=Be (out++L))
 |_,0,_,_,_,_,h,_,_,_=>absurd h (aah _)
 |n,m+1,[],b,out,h1,h2,h3,ha,hb=>by
  right;refine⟨fun x hx=>(aa7 hx).elim,b,hb,fun x=>⟨fun h=>.inr (.inl ⟨h,fun y hy=>(aa7 hy).elim⟩),?_⟩,by simp,?_⟩
  ·rintro(⟨h,_⟩|⟨h,_⟩|⟨y,h,_⟩)
   ·exact(aa7 h).elim
   ·exact h
   ·exact(aa7 h).elim
  ·rw[MY (.inl rfl) (by simpa using h3)];rfl
 |n,m+1,x::a,[],out,h1,h2,h3,ha,hb=>by
  right;refine⟨fun x _ y hy=>(aa7 hy).elim,x::a,ha,fun z=>⟨fun h=>.inl ⟨h,fun y hy=>(aa7 hy).elim⟩,?_⟩,by simp,?_⟩
  ·rintro(⟨h,_⟩|⟨h,_⟩|⟨y,_,z,h,_⟩)
   ·exact h
   ·exact(aa7 h).elim
   ·exact(aa7 h).elim
  ·rw[MY (.inr rfl) (by simpa using h3),aag]
 |0,m+1,x::a,y::b,out,h1,h2,h3,ha,hb=>by simp at h1
 |n+1,m+1,x::a,y::b,out,h1,h2,h3,ha,hb=>by
  have ha2:=aax.1 ha;have hb2:=aax.1 hb;have lx:(x::a).length=a.length+1:=rfl;have ly:(y::b).length=b.length+1:=rfl;rw[lx,ly]at h1 h3;rw[Pw];unfold jH;rw[aD (decide_eq_true (by rw[lx];omega)),aG,aE];dsimp only;rw[aD (decide_eq_true (by rw[ly];omega)),kX (x:=x) (by decide) rfl,kX (x:=y) (by decide) rfl];have ho:∀K:Int->Option (Int×List Rd),bc (eK N (x.1,(x.2.1,(x.2.2.1,(x.2.2.2.1,(x.2.2.2.2.1,x.2.2.2.2.2))))) (y.1,(y.2.1,(y.2.2.1,(y.2.2.2.1,(y.2.2.2.2.1,y.2.2.2.2.2)))))) K=K (ph x y):=fun K=>by show bc (eK N x y) K=_;rw[Kd hN,aE]
  rw[ho];have lo:∀z:Rd,(out++[z]).length=out.length+1:=fun z=>by simp
  by_cases hlt:ph x y<0
  ·have hxy:=KI.1 hlt;rw[aD (decide_eq_true hlt),kX (x:=x) (by decide) rfl,aG,aB (by simp only[aaf,aaE];omega),aB (by rw[lx];omega),aB (me _),aG,EJ];have hno:∀z∈y::b,¬j8 x z:=fun z hz h=>by
    rcases ω.1 hz with rfl|hz
    ·exact Jd hxy h
    ·exact Jd (Ag hxy (hb2.1 z hz)) h
   have hrc:RC (x::a) (y::b)↔RC a (y::b):=⟨fun h u hu=>h u (aab _ hu),fun h u hu v hv e=>by
    rcases ω.1 hu with rfl|hu
    ·exact absurd e (hno v hv)
    ·exact h u hu v hv e⟩
   rw[hrc];rcases DB hN n m a (y::b) (out++[x]) (by rw[ly];omega) (by omega) (by rw[lo,ly];omega) ha2.2 hb with⟨g1,g2⟩|⟨g1,L,g2,g3,g4,g5⟩
   ·exact .inl ⟨g1,g2⟩
   ·refine .inr ⟨g1,x::L,aax.2 ⟨fun z hz=>?_,g2⟩,fun z=>?_,by rw[lx,aaf];omega,by rw[g5,π];rfl⟩
    ·obtain⟨u,hu,hs⟩:=HZ ((g3 z).1 hz);refine HC ?_ hs;rcases hu with hu|hu
     ·exact ha2.1 u hu
     ·rcases ω.1 hu with rfl|hu
      ·exact hxy
      ·exact Ag hxy (hb2.1 u hu)
    ·rw[ω,g3];constructor
     ·rintro(rfl|⟨h,h'⟩|⟨h,h'⟩|⟨u,hu,v,hv,e,rfl⟩)
      ·exact .inl ⟨aap,hno⟩
      ·exact .inl ⟨aab _ h,h'⟩
      ·refine .inr (.inl ⟨h,fun u hu=>?_⟩);rcases ω.1 hu with rfl|hu
       ·exact fun e=>hno z h (yK e)
       ·exact h' u hu
      ·exact .inr (.inr ⟨u,aab _ hu,v,hv,e,rfl⟩)
     ·rintro(⟨h,h'⟩|⟨h,h'⟩|⟨u,hu,v,hv,e,rfl⟩)
      ·rcases ω.1 h with rfl|h
       ·exact .inl rfl
       ·exact .inr (.inl ⟨h,h'⟩)
      ·exact .inr (.inr (.inl ⟨h,fun u hu=>h' u (aab _ hu)⟩))
      ·rcases ω.1 hu with rfl|hu
       ·exact absurd e (hno v hv)
       ·exact .inr (.inr (.inr ⟨u,hu,v,hv,e,rfl⟩))
  ·rw[aC (decide_eq_false hlt)];by_cases hgt:ph x y>0
   ·have hyx:=Um.1 hgt;rw[aD (decide_eq_true hgt),kX (x:=y) (by decide) rfl,aG,aB (by simp only[aaf,aaE];omega),aB (by rw[ly];omega),aB (me _),aG,EJ];have hno:∀z∈x::a,¬j8 z y:=fun z hz h=>by
     rcases ω.1 hz with rfl|hz
     ·exact Gj hyx h
     ·exact Gj (Ag hyx (ha2.1 z hz)) h
    have hrc:RC (x::a) (y::b)↔RC (x::a) b:=⟨fun h u hu v hv=>h u hu v (aab _ hv),fun h u hu v hv e=>by
     rcases ω.1 hv with rfl|hv
     ·exact absurd e (hno u hu)
     ·exact h u hu v hv e⟩
    rw[hrc];rcases DB hN n m (x::a) b (out++[y]) (by rw[lx];omega) (by omega) (by rw[lo,lx];omega) ha hb2.2 with⟨g1,g2⟩|⟨g1,L,g2,g3,g4,g5⟩
    ·exact .inl ⟨g1,g2⟩
    ·refine .inr ⟨g1,y::L,aax.2 ⟨fun z hz=>?_,g2⟩,fun z=>?_,by rw[lx]at g4;rw[lx,ly,aaf];omega,by rw[g5,π];rfl⟩
     ·obtain⟨u,hu,hs⟩:=HZ ((g3 z).1 hz);refine HC ?_ hs;rcases hu with hu|hu
      ·rcases ω.1 hu with rfl|hu
       ·exact hyx
       ·exact Ag hyx (ha2.1 u hu)
      ·exact hb2.1 u hu
     ·rw[ω,g3];constructor
      ·rintro(rfl|⟨h,h'⟩|⟨h,h'⟩|⟨u,hu,v,hv,e,rfl⟩)
       ·exact .inr (.inl ⟨aap,fun u hu e=>hno u hu (yK e)⟩)
       ·refine .inl ⟨h,fun u hu=>?_⟩;rcases ω.1 hu with rfl|hu
        ·exact hno z h
        ·exact h' u hu
       ·exact .inr (.inl ⟨aab _ h,h'⟩)
       ·exact .inr (.inr ⟨u,hu,v,aab _ hv,e,rfl⟩)
      ·rintro(⟨h,h'⟩|⟨h,h'⟩|⟨u,hu,v,hv,e,rfl⟩)
       ·exact .inr (.inl ⟨h,fun u hu=>h' u (aab _ hu)⟩)
       ·rcases ω.1 h with rfl|h
        ·exact .inl rfl
        ·exact .inr (.inr (.inl ⟨h,h'⟩))
       ·rcases ω.1 hv with rfl|hv
        ·exact absurd e (hno u hu)
        ·exact .inr (.inr (.inr ⟨u,hu,v,hv,e,rfl⟩))
   ·have hsp:j8 x y:=Uf.1 (by omega);rw[aC (decide_eq_false hgt),kX (x:=x) (by decide) rfl,kX (x:=y) (by decide) rfl];have hr:∀K:Bool->Option (Int×List Rd),bc (fJ N (x.1,(x.2.1,(x.2.2.1,(x.2.2.2.1,(x.2.2.2.2.1,x.2.2.2.2.2))))) (y.1,(y.2.1,(y.2.2.1,(y.2.2.2.1,(y.2.2.2.2.1,y.2.2.2.2.2)))))) K=K (decide (rep x y)):=fun K=>by show bc (fJ N x y) K=_;rw[aWm,aE]
    rw[hr];by_cases hrep:rep x y
    ·rw[decide_eq_true hrep,aaQ,fG,kX (x:=x) (by decide) rfl,kX (x:=y) (by decide) rfl];rw[oj,oj,oj,oj,oj,oj,aG,aB (by simp only[aaf,aaE];omega),oj,oj,oj,oj,oj,oj,aB (by rw[lx];omega),aB (me _),aB (by rw[ly];omega),aB (me _),aG,EJ,EJ];have hno1:∀z∈b,¬j8 x z:=fun z hz h=>by have:=hb2.1 z hz;unfold k9 j8 at*;omega
     have hno2:∀z∈a,¬j8 z y:=fun z hz h=>by have:=ha2.1 z hz;unfold k9 j8 at*;omega
     have hrc:RC (x::a) (y::b)↔RC a b:=⟨fun h u hu v hv=>h u (aab _ hu) v (aab _ hv),fun h u hu v hv e=>by
      rcases ω.1 hu with rfl|hu
      ·rcases ω.1 hv with rfl|hv
       ·exact hrep
       ·exact absurd e (hno1 v hv)
      ·rcases ω.1 hv with rfl|hv
       ·exact absurd e (hno2 u hu)
       ·exact h u hu v hv e⟩
     rw[hrc];show(_/\cK N m a b (out++[ur x y])=_)\/(_/\∃L,_/\_/\_/\cK N m a b (out++[ur x y])=_);rcases DB hN n m a b (out++[ur x y]) (by omega) (by omega) (by rw[lo];omega) ha2.2 hb2.2 with⟨g1,g2⟩|⟨g1,L,g2,g3,g4,g5⟩
     ·exact .inl ⟨g1,g2⟩
     ·refine .inr ⟨g1,ur x y::L,aax.2 ⟨fun z hz=>?_,g2⟩,fun z=>?_,by rw[lx,ly,aaf];omega,by rw[g5,π];rfl⟩
      ·obtain⟨u,hu,hs⟩:=HZ ((g3 z).1 hz);refine HC ?_ hs;rcases hu with hu|hu
       ·exact ha2.1 u hu
       ·have:=hb2.1 u hu;unfold k9 j8 ur at*;dsimp only;omega
      ·rw[ω,g3];constructor
       ·rintro(rfl|⟨h,h'⟩|⟨h,h'⟩|⟨u,hu,v,hv,e,rfl⟩)
        ·exact .inr (.inr ⟨x,aap,y,aap,hsp,rfl⟩)
        ·refine .inl ⟨aab _ h,fun u hu=>?_⟩;rcases ω.1 hu with rfl|hu
         ·exact hno2 z h
         ·exact h' u hu
        ·refine .inr (.inl ⟨aab _ h,fun u hu e=>?_⟩);rcases ω.1 hu with rfl|hu
         ·exact hno1 z h (yK e)
         ·exact h' u hu e
        ·exact .inr (.inr ⟨u,aab _ hu,v,aab _ hv,e,rfl⟩)
       ·rintro(⟨h,h'⟩|⟨h,h'⟩|⟨u,hu,v,hv,e,rfl⟩)
        ·rcases ω.1 h with rfl|h
         ·exact absurd hsp (h' y aap)
         ·exact .inr (.inl ⟨h,fun u hu=>h' u (aab _ hu)⟩)
        ·rcases ω.1 h with rfl|h
         ·exact absurd (yK hsp) (h' x aap)
         ·exact .inr (.inr (.inl ⟨h,fun u hu=>h' u (aab _ hu)⟩))
        ·rcases ω.1 hu with rfl|hu
         ·rcases ω.1 hv with rfl|hv
          ·exact .inl rfl
          ·exact absurd e (hno1 v hv)
         ·rcases ω.1 hv with rfl|hv
          ·exact absurd e (hno2 u hu)
          ·exact .inr (.inr (.inr ⟨u,hu,v,hv,e,rfl⟩))
    ·rw[decide_eq_false hrep,abF,pF];exact .inl ⟨fun h=>hrep (h x aap y aap hsp),rfl⟩
theorem Yv(hN:8010<=N)(hca:ra a=0)(hcb:ra b=0):
  (¬RC a b/\cZ N a b=some (24,[]))\/(RC a b/\∃L,qm L/\(∀x,x∈L↔Jn a b x)/\L.length<=a.length+b.length/\cZ N a b=Be L):=by
 obtain⟨a1,a2,a3⟩:=(zQ a).1 hca;obtain⟨b1,b2,b3⟩:=(zQ b).1 hcb;have key:cZ N a b=cK N N a b []:=by unfold cZ;obtain⟨m,rfl⟩:∃m,N=m+3:=⟨N-3,by omega⟩;generalize hK:m+3=K at*;rw[show nX K K=gR K (gR K (gR K (nX K m))) by rw[<-hK];rfl];unfold gR;rw[aD (by rfl),aB (by decide),aB (by show(0:Int)<((2:Nat):Int);decide),eW (x:=a) rfl,HW (by omega),hca,aE,aC (by rfl),aI (by decide) (by decide),aG];rw[aD (by rfl),aB (by decide),aB (by show(1:Int)<((2:Nat):Int);decide),eW (x:=b) rfl,HW (by omega),hcb,aE,aC (by rfl),aI (by decide) (by decide),aG,aC (by rfl)]
 rw[key];simpa using DB (N:=N) (by omega) (a.length+b.length) N a b [] (me _) (by omega) (by simp;omega) a3 b3
set_option maxRecDepth 8000
set_option synthInstance.maxSize 100000
set_option synthInstance.maxHeartbeats 400000
def BV(l:List Pt):Prop:=∀p∈l,p.2.2.1.length<=50000/\p.2.2.2.length<=50000
theorem XL(N:Nat)(a:Int):∃b,lS N a=some b:=by unfold lS;rw[uy,aE];exact⟨_,rfl⟩
theorem Sz(hN:17179869184<N){p:Rt}(h:p.2.1.length<=50000/\p.2.2.length<=50000):∃b,iJ N p=some b:=by unfold iJ;have:=NV (N:=N) (p:=p) (by omega) (by omega) hN;have:mT N (p.1,(p.2.1,p.2.2))=some (rv p):=this;rw[this,aE,uy,aE];exact⟨_,rfl⟩
theorem KJ(N m:Nat):iT N (m+1)=lR N (iT N m):=rfl
theorem Ks{N:Nat}(hN:17179869184<N)(l:List Pt)(h:BV l)(hl:l.length<=100000):∀(k m i:Nat),i+k=l.length->k<m->∃c,iT N m l ((l.length:Nat):Int) (i:Int) l=some c
 |_,0,_,_,h=>absurd h (aah _)
 |0,m+1,i,h1,_=>by
  rw[KJ];unfold lR;rw[aC (decide_eq_false (by omega))];exact⟨_,rfl⟩
 |k+1,m+1,i,h1,h2=>by
  have hlt:i<l.length:=by omega
  rw[KJ];unfold lR;rw[aD (decide_eq_true (by omega)),cU (ν hlt)];obtain⟨b,hb⟩:=XL N l[i].1;rw[hb,aE];cases b with
  |false=>exact⟨_,rfl⟩
  |true=>
   rw[aaQ,fG];have hs:=h _ (abM hlt);obtain⟨c,hc⟩:=Sz hN (p:=l[i].2) hs;have hc:iJ N (l[i].2.1,(l[i].2.2.1,l[i].2.2.2))=some c:=hc;rw[hc,aE];cases c with
   |false=>exact⟨_,rfl⟩
   |true=>
    rw[aaQ,fG];obtain⟨c,nxt⟩:=Ks hN l h hl k m (i+1) (by omega) (by omega);have fin:∀x:Bool,∃c,(bc (some (l,((l.length:Nat):Int),(i:Int),x,l)) fun w14=>bf (w14.2.2.2.1) (some (1:Int)) (ck .i64 ((w14.2.2.1+1)) (iT N m w14.1 w14.2.1 (w14.2.2.1+1) w14.2.2.2.2)))=some c:=fun x=>by
     rw[aE];dsimp only;cases x with
     |true=>exact⟨_,rfl⟩
     |false=>
      rw[fG,aI (by omega) (by omega),show(i:Int)+1=((i+1:Nat):Int) by omega,nxt];exact⟨_,rfl⟩
    by_cases h0:i=0
    ·subst h0;rw[aC (by rfl)];exact fin _
    ·have hlt':i-1<l.length:=by omega
     have e1:(i:Int)-1=((i-1:Nat):Int):=by omega
     rw[aD (decide_eq_true (by omega)),e1,aI (by omega) (by omega),cU (ν hlt')];by_cases h3:l[i].1<=l[i-1].1
     ·rw[aD (decide_eq_true h3)];exact fin _
     ·have hs':=h _ (abM hlt');have hcm:=RR (N:=N) (p:=l[i].2) (q:=l[i-1].2) (by omega) (by omega) (by omega) (by omega) hN;have hcm:uX N (l[i].2.1,(l[i].2.2.1,l[i].2.2.2)) (l[i-1].2.1,(l[i-1].2.2.1,l[i-1].2.2.2))=some (GN l[i].2 l[i-1].2):=hcm;rw[aC (decide_eq_false h3),aI (by omega) (by omega),cU (ν hlt'),hcm,aE];exact fin _
theorem bOw(hN:17179869184<N)(l:List Pt)(h:BV l):∃c,pB N l=some c:=by
 unfold pB;by_cases h1:l.length<1
 ·rw[aD (decide_eq_true (by omega)),aE];exact⟨_,rfl⟩
 ·rw[aC (decide_eq_false (by omega)),aE];dsimp only;by_cases h2:l.length>16
  ·rw[aD (decide_eq_true (by omega))];exact⟨_,rfl⟩
  ·rw[aC (decide_eq_false (by omega))];exact Ks hN l h (by omega) l.length N 0 (by omega) (by omega)
theorem NT{a b:Option α}(ha:∃x,a=some x)(hb:∃x,b=some x):∃x,bf c a b=some x:=by
 cases c
 ·exact hb
 ·exact ha
theorem Hf{a:Option α}{f:α->Option β}{P:α->Prop}(ha:∃x,a=some x/\P x)(hf:∀x,P x->∃y,f x=some y):∃y,bc a f=some y:=by obtain⟨x,rfl,hp⟩:=ha;exact hf x hp
theorem BX{P:α->Prop}{a b:Option α}(ha:∃x,a=some x/\P x)(hb:∃x,b=some x/\P x):∃x,bf c a b=some x/\P x:=by
 cases c
 ·exact hb
 ·exact ha
theorem bR5(k:Int):∃o:Option Int,gX (nY (nY ([]:(List TN)) 2 1000) 3 960) k=o/\0<=o.getD 0/\o.getD 0<=1000:=by
 refine⟨_,rfl,?_⟩;by_cases h2:k=2
 ·subst h2;decide
 ·by_cases h3:k=3
  ·subst h3;decide
  ·have:gX (nY (nY ([]:(List TN)) 2 1000) 3 960) k=none:=by
    have e:nY (nY ([]:(List TN)) 2 1000) 3 960=[(2,1000),(3,960)]:=by decide
    rw[e];simp[gX,Ne.symm h2,Ne.symm h3]
   rw[this];decide
theorem Qn(hN:17179869184<N)(v:Vr)(h:BV (vp v)):∃b,cQ N v=some b:=by
 unfold cQ;refine Hf (P:=fun w=>w.2=v) ?_ ?_
 ·repeat' first
   |exact⟨_,rfl,rfl⟩
   |refine BX ?_ ?_
 ·rintro⟨x,w⟩ hw;have hw:w=v:=hw;subst hw;dsimp only;refine NT ⟨_,rfl⟩ (NT ?_ ?_)
  ·refine Hf (P:=fun _=>True) ?_ fun x _=>⟨_,rfl⟩;refine BX ?_ ⟨_,rfl,trivial⟩;obtain⟨c,hc⟩:=bOw hN (vp w) h;rw[show w.2.2.2.2.2.2.2=vp w from rfl,hc,aE];exact⟨_,rfl,trivial⟩
  ·refine Hf (P:=fun _=>True) ?_ fun x _=>⟨_,rfl⟩;obtain⟨o,ho,h1,h2⟩:=bR5 w.1;rw[ho];refine BX (BX ?_ ⟨_,rfl,trivial⟩) ⟨_,rfl,trivial⟩;rw[aI (by omega) (by omega)];exact BX ⟨_,rfl,trivial⟩ ⟨_,rfl,trivial⟩
def vr(N:Nat)(v:Vr):Bool:=(cQ N v).getD false
theorem Lj(hN:17179869184<N){v:Vr}(h:BV (vp v)):cQ N v=some (vr N v):=by obtain⟨b,hb⟩:=Qn hN v h;unfold vr;rw[hb];rfl
def ud(N:Nat):Vr->List Vr->Bool
 |_,[]=>true
 |c,y::r=>vr N y&&(decide (xR c y<0)&&ud N y r)
def Je(N:Nat):List Vr->Bool
 |[]=>true
 |x::r=>vr N x&&ud N x r
def qx(l:List Vr):Prop:=∀v∈l,BV (vp v)
theorem Gw(N m:Nat):jD N (m+1)=gS N (jD N m):=rfl
theorem OZ{N n:Nat}(hN:17179869184<N)(hn:n<=100000):∀(R:List Vr) (m:Nat) (P:List Vr) (c:Vr),qx R->R.length<m->P.length+1+R.length=n->
  jD N m (P++c::R) (P++c::R) (n:Int) ((P.length+1:Nat):Int)=some (if ud N c R then 0 else 1)
 |_,0,_,_,_,h,_=>absurd h (aah _)
 |[],m+1,P,c,_,hm,h3=>by
  have h3:P.length+1=n:=h3;rw[Gw];unfold gS;rw[aC (decide_eq_false (by omega))];rfl
 |y::R,m+1,P,c,hs,hm,h3=>by
  have lr:(y::R).length=R.length+1:=rfl;rw[lr]at h3 hm;have r1:P++(c::y::R)=(P++[c])++y::R:=by simp
  have l1:(P++[c]).length=P.length+1:=by simp
  have g1:(P++(c::y::R))[P.length+1]?=some y:=by rw[r1,<-l1];exact CD _ y _
  have g2:(P++(c::y::R))[P.length]?=some c:=CD P c _;have nxt:=OZ hN hn R m (P++[c]) y (fun v hv=>hs v (aab _ hv)) (by omega) (by rw[l1];omega);rw[l1,<-r1]at nxt;have e1:((P.length+1:Nat):Int)-1=(P.length:Int):=by omega
  rw[Gw];unfold gS;rw[aD (decide_eq_true (by omega)),cU g1];show bc (bc (cQ N y) _) _=_;rw[Lj hN (hs y aap),aE];show _=some (if vr N y&&(decide (xR c y<0)&&ud N y R)then 0 else 1);cases hr:vr N y with
  |false=>rfl
  |true=>
   rw[aaQ,fG,aD (decide_eq_true (by omega)),e1,aI (by omega) (by omega),cU g2];show bc (bc (fM N c y) _) _=_;rw[I1,aE,aE];dsimp only;by_cases hlt:xR c y<0
   ·rw[aC (decide_eq_false (by omega)),aI (by omega) (by omega),show((P.length+1:Nat):Int)+1=((P.length+1+1:Nat):Int) by omega,nxt,decide_eq_true hlt];rfl
   ·rw[aD (decide_eq_true (by omega)),decide_eq_false hlt];rfl
def ya(N:Nat)(l:List Vr):Int:=if l.length>400 then 2 else if Je N l then 0 else 1
theorem NI{l:List Vr}(hN:17179869184<N)(hs:qx l):cS N l=some (ya N l):=by
 unfold cS ya;by_cases hl:l.length>400
 ·rw[aD (decide_eq_true (by omega)),if_pos hl]
 ·rw[aC (decide_eq_false (by omega)),if_neg hl];obtain⟨m,rfl⟩:∃m,N=m+1:=⟨N-1,by omega⟩;rw[Gw];unfold gS;cases l with
  |nil=>rfl
  |cons x R=>
   have lr:(x::R).length=R.length+1:=rfl;rw[lr]at hl;have nxt:=OZ (N:=m+1) (n:=R.length+1) hN (by omega) R m [] x (fun v hv=>hs v (aab _ hv)) (by omega) (by show 0+1+_=_;omega);rw[aD (decide_eq_true (by rw[lr];omega)),kX (x:=x) (by decide) rfl];show bc (bc (cQ (m+1) x) _) _=_;rw[Lj hN (hs x aap),aE];show _=some (if vr (m+1) x&&ud (m+1) x R then 0 else 1);cases hr:vr (m+1) x with
   |false=>rfl
   |true=>
    rw[aaQ,fG,aC (by rfl),aE];dsimp only;rw[fG,aI (by decide) (by decide)];exact nxt
theorem X8{x y z:Vr}(h:gz x y)(h':gz y z):gz x z:=by unfold gz at*;omega
theorem M6{N:Nat}:∀(R:List Vr) (c:Vr),ud N c R=true↔(∀y∈R,vr N y=true)/\qt (c::R)
 |[],c=>by simp[ud]
 |y::R,c=>by
  show(vr N y&&(decide (xR c y<0)&&ud N y R))=true↔_;rw[μ,μ,decide_eq_true_eq,JT,M6 R y];constructor
  ·rintro⟨h1,h2,h3,h4⟩;refine⟨fun z hz=>?_,aax.2 ⟨fun z hz=>?_,h4⟩⟩
   ·rcases ω.1 hz with rfl|hz
    ·exact h1
    ·exact h3 z hz
   ·rcases ω.1 hz with rfl|hz
    ·exact h2
    ·exact X8 h2 ((aax.1 h4).1 z hz)
  ·rintro⟨h1,h2⟩;have h2:=aax.1 h2;exact⟨h1 y aap,h2.1 y aap,fun z hz=>h1 z (aab _ hz),h2.2⟩
theorem XZ(l:List Vr):Je N l=true↔(∀y∈l,vr N y=true)/\qt l:=by
 cases l with
 |nil=>simp[Je]
 |cons x R=>
  show(vr N x&&ud N x R)=true↔_;rw[μ,M6];constructor
  ·rintro⟨h1,h2,h3⟩;refine⟨fun z hz=>?_,h3⟩;rcases ω.1 hz with rfl|hz
   ·exact h1
   ·exact h2 z hz
  ·rintro⟨h1,h2⟩;exact⟨h1 x aap,fun z hz=>h1 z (aab _ hz),h2⟩
theorem u4(l:List Vr):ya N l=0↔l.length<=400/\(∀y∈l,vr N y=true)/\qt l:=by
 unfold ya;rw[<-XZ];split
 ·constructor
  ·intro h;cases h
  ·rintro⟨h,_⟩;omega
 ·split
  ·rename_i h1 h2;exact⟨fun _=>⟨by omega,h2⟩,fun _=>rfl⟩
  ·rename_i h1 h2;exact⟨fun h=>(by cases h),fun h=>absurd h.2 h2⟩
abbrev Sg:=Int×(List Rd×List Vr)
variable{s:Sg}
abbrev mj(r:Rd):Int:=r.2.2.2.2.2
abbrev m7(v:Vr):Int:=v.2.2.2.1
theorem Pr(N m:Nat):bZ N (m+1)=bX N (bZ N m):=rfl
theorem Km(N m:Nat):bW N (m+1)=cA N (bW N m):=rfl
theorem MI(N:Nat)(l:List Rd)(d:Int)(p3:List Rd)(p4:List Vr)(hl:l.length<=100000):∀(k m i:Nat),i+k=l.length->k<m->∃x,bZ N m l ((l.length:Nat):Int) (i:Int) d p3 p4=some (x,(d,(p3,p4)))/\(x≥0↔∃y∈l.drop i,mj y≠d)
 |_,0,_,_,h=>absurd h (aah _)
 |0,m+1,i,h1,_=>by
  rw[Pr];unfold bX;rw[aC (decide_eq_false (by omega)),aaC (by omega)];exact⟨_,rfl,by simp⟩
 |k+1,m+1,i,h1,h2=>by
  have hlt:i<l.length:=by omega
  rw[Pr];unfold bX;rw[aD (decide_eq_true (by omega)),cU (ν hlt)];unfold nC;rw[aE];dsimp only;obtain⟨x,nxt,hx⟩:=MI N l d p3 p4 hl k m (i+1) (by omega) (by omega);rw[aaJ hlt];by_cases h:mj l[i]=d
  ·rw[aC (by rw[bne_eq_false_iff_eq];exact h),aI (by omega) (by omega),show(i:Int)+1=((i+1:Nat):Int) by omega,nxt];refine⟨x,rfl,hx.trans ⟨?_,?_⟩⟩
   ·rintro⟨y,h3,h4⟩;exact⟨y,aab _ h3,h4⟩
   ·rintro⟨y,h3,h4⟩;rcases ω.1 h3 with rfl|h3
    ·exact absurd h h4
    ·exact⟨y,h3,h4⟩
  ·rw[aD (by rw[bne_iff_ne];exact h)];exact⟨_,rfl,⟨fun _=>⟨_,aap,h⟩,fun _=>by omega⟩⟩
theorem NC(N:Nat)(l:List Vr)(d:Int)(p3:List Rd)(p4:List Vr)(hl:l.length<=100000):∀(k m i:Nat),i+k=l.length->k<m->∃x,bW N m l ((l.length:Nat):Int) (i:Int) d p3 p4=some (x,(d,(p3,p4)))/\(x≥0↔∃y∈l.drop i,m7 y≠d)
 |_,0,_,_,h=>absurd h (aah _)
 |0,m+1,i,h1,_=>by
  rw[Km];unfold cA;rw[aC (decide_eq_false (by omega)),aaC (by omega)];exact⟨_,rfl,by simp⟩
 |k+1,m+1,i,h1,h2=>by
  have hlt:i<l.length:=by omega
  rw[Km];unfold cA;rw[aD (decide_eq_true (by omega)),cU (ν hlt)];unfold nR;rw[aE];dsimp only;obtain⟨x,nxt,hx⟩:=NC N l d p3 p4 hl k m (i+1) (by omega) (by omega);rw[aaJ hlt];by_cases h:m7 l[i]=d
  ·rw[aC (by rw[bne_eq_false_iff_eq];exact h),aI (by omega) (by omega),show(i:Int)+1=((i+1:Nat):Int) by omega,nxt];refine⟨x,rfl,hx.trans ⟨?_,?_⟩⟩
   ·rintro⟨y,h3,h4⟩;exact⟨y,aab _ h3,h4⟩
   ·rintro⟨y,h3,h4⟩;rcases ω.1 h3 with rfl|h3
    ·exact absurd h h4
    ·exact⟨y,h3,h4⟩
  ·rw[aD (by rw[bne_iff_ne];exact h)];exact⟨_,rfl,⟨fun _=>⟨_,aap,h⟩,fun _=>by omega⟩⟩
theorem bQw(hl:l.length<=100000)(hN:l.length<N):bS N l d p3 p4=some (!decide (∀y∈l,mj y=d),(d,(p3,p4))):=by
 unfold bS dI;obtain⟨x,h,hx⟩:=MI N l d p3 p4 hl l.length N 0 (by omega) hN;rw[show(((0:Nat):Int))=0 from rfl]at h;rw[h,aE];dsimp only;rw[aaB]at hx;have:decide (x≥0)=!decide (∀y∈l,mj y=d):=by rw[aa9,decide_eq_true_eq,hx];simp
 rw[this]
theorem Qo{l:List Vr}(hl:l.length<=100000)(hN:l.length<N):bT N l d p3 p4=some (!decide (∀y∈l,m7 y=d),(d,(p3,p4))):=by
 unfold bT dH;obtain⟨x,h,hx⟩:=NC N l d p3 p4 hl l.length N 0 (by omega) hN;rw[show(((0:Nat):Int))=0 from rfl]at h;rw[h,aE];dsimp only;rw[aaB]at hx;have:decide (x≥0)=!decide (∀y∈l,m7 y=d):=by rw[aa9,decide_eq_true_eq,hx];simp
 rw[this]
def pg(N:Nat)(l:List Rd)(vs:List Vr):Int:=if ra l≠0 then ra l else ya N vs
theorem HT(hN:17179869184<N)(hs:qx vs):gM N l vs=some (pg N l vs):=by
 unfold gM pg;rw[HW (by omega),aE,NI hN hs,aE];by_cases h:ra l=0
 ·rw[aC (by rw[bne_eq_false_iff_eq];exact h),if_neg (by omega)]
 ·rw[aD (by rw[bne_iff_ne];exact h),if_pos h]
theorem tf:pg N l vs=0↔ra l=0/\ya N vs=0:=by
 unfold pg;split
 ·omega
 ·omega
def DH(N:Nat)(s:Sg):Int:=if wi s.1 0 14609=true then(if pg N s.2.1 s.2.2≠0 then pg N s.2.1 s.2.2 else if(∀y∈s.2.1,mj y=s.1)/\∀y∈s.2.2,m7 y=s.1 then 0 else 1)else 3
theorem P6(N:Nat)(n:Int):lO N n=some (wi n 0 14609):=by unfold lO;rw[uy,aE];rfl
theorem PI(hN:17179869184<N)(hs:qx s.2.2):cR N s=some (DH N s):=by
 unfold cR DH;rw[P6,aE];cases hd:wi s.1 0 14609 with
 |false=>rfl
 |true=>
  rw[aaQ,fG,HT hN hs,aE,if_pos rfl];by_cases h:pg N s.2.1 s.2.2=0
  ·rw[aC (by rw[bne_eq_false_iff_eq];exact h),if_neg (by omega)];obtain⟨h1,h2⟩:=tf.1 h;have l1:=((zQ _).1 h1).1;have l2:=((u4 _).1 h2).1;rw[bQw (by omega) (by omega),aE];dsimp only;by_cases h3:∀y∈s.2.1,mj y=s.1
   ·rw[decide_eq_true h3,aaQ,fG,Qo (by omega) (by omega),aE,aE];dsimp only;by_cases h4:∀y∈s.2.2,m7 y=s.1
    ·rw[decide_eq_true h4,aaQ,fG,if_pos ⟨h3,h4⟩]
    ·rw[decide_eq_false h4,abF,pF,if_neg fun h=>h4 h.2]
   ·rw[decide_eq_false h3,abF,pF,aE,pF,if_neg fun h=>h3 h.1]
  ·rw[aD (by rw[bne_iff_ne];exact h),if_pos h]
structure G5 (N:Nat) (s:Sg):Prop where
 day:wi s.1 0 14609=true
 len:s.2.1.length<=4000
 rr:∀y∈s.2.1,rr y=true
 l7:qm s.2.1
 A6:s.2.2.length<=400
 vr:∀y∈s.2.2,vr N y=true
 Jc:qt s.2.2
 kn:∀y∈s.2.1,mj y=s.1
 m7:∀y∈s.2.2,m7 y=s.1
theorem Kr:DH N s=0↔G5 N s:=by
 unfold DH;constructor
 ·intro h;split at h
  ·rename_i h1;split at h
   ·omega
   ·rename_i h2;split at h
    ·rename_i h3;obtain⟨h4,h5⟩:=tf.1 (show pg N s.2.1 s.2.2=0 by omega);obtain⟨a1,a2,a3⟩:=(zQ _).1 h4;obtain⟨b1,b2,b3⟩:=(u4 _).1 h5;exact⟨h1,a1,a2,a3,b1,b2,b3,h3.1,h3.2⟩
    ·omega
  ·omega
 ·intro h;have hk:pg N s.2.1 s.2.2=0:=tf.2 ⟨(zQ _).2 ⟨h.len,h.rr,h.l7⟩,(u4 _).2 ⟨h.A6,h.vr,h.Jc⟩⟩;rw[if_pos h.day,if_neg (by omega),if_pos ⟨h.kn,h.m7⟩]
theorem RJ(h:rep x y)(hx:mj x=d)(hy:mj y=d):x=y/\ur x y=x:=by obtain⟨x1,x2,x3,x4,x5,x6⟩:=x;obtain⟨y1,y2,y3,y4,y5,y6⟩:=y;unfold rep at h;dsimp only[mj]at*;obtain⟨rfl,rfl,rfl,rfl,rfl⟩:=h;subst hx hy;exact⟨rfl,by unfold ur;dsimp only;rw[show min y6 y6=y6 by omega]⟩
theorem O0(x:Rd):rep x x:=⟨rfl,rfl,rfl,rfl,rfl⟩
theorem V4{l:List Vr}(hN:17179869184<N)(h:∀y∈l,vr N y=true)(hp:∀v∈l,(vp v).length<=100000):jz N l:=fun x hx=>by have:x.2.2.2.2.2.2.2.length<=100000:=hp x hx;exact⟨by omega,by omega⟩
theorem Of:∀{l l':List Rd},qm l->qm l'->(∀x,x∈l↔x∈l')->l=l'
 |[],[],_,_,_=>rfl
 |[],y::l',_,_,h=>absurd ((h y).2 aap) aa7
 |x::l,[],_,_,h=>absurd ((h x).1 aap) aa7
 |x::l,y::l',h1,h2,h=>by
  have p1:=aax.1 h1;have p2:=aax.1 h2;have irr:∀z,k9 z z->False:=fun z hz=>by unfold k9 at hz;omega
  have e:x=y:=by
   rcases ω.1 ((h x).1 aap)with e|e
   ·exact e
   ·rcases ω.1 ((h y).2 aap)with e'|e'
    ·exact e'.symm
    ·exact(irr _ (Ag (p1.1 _ e') (p2.1 _ e))).elim
  subst e;rw[Of p1.2 p2.2 fun z=>⟨fun hz=>?_,fun hz=>?_⟩]
  ·rcases ω.1 ((h z).1 (aab _ hz))with e|e
   ·subst e;exact(irr _ (p1.1 _ hz)).elim
   ·exact e
  ·rcases ω.1 ((h z).2 (aab _ hz))with e|e
   ·subst e;exact(irr _ (p2.1 _ hz)).elim
   ·exact e
abbrev pl(x:Rd):Int×Int:=(x.1,x.2.1)
theorem Vj(o x:Rd):(lZ [1,1,1,1,1] (o.1==x.1) (lZ [1,1,1,1] (o.2.1==x.2.1) (lZ [1,1,1] (o.2.2.1==x.2.2.1) (lZ [1,1] (o.2.2.2.1==x.2.2.2.1) (lZ [1] (o.2.2.2.2.1==x.2.2.2.2.1) (lZ ([]:List Nat) (o.2.2.2.2.2==x.2.2.2.2.2) true))))))=decide (o=x):=by obtain⟨a,b,c,d,e,f⟩:=o;obtain⟨a',b',c',d',e',f'⟩:=x;rw[aa9,decide_eq_true_eq];simp[lZ]
theorem Wj(N:Nat)(l:List Rd)(k:Int):∃b,sO N l k=some b/\(b=true->(l.length:Int)<=k\/l.length>4000):=by
 unfold sO;by_cases h1:(l.length:Int)<=k
 ·exact⟨true,by rw[aD (decide_eq_true h1),aE],fun _=>.inl h1⟩
 ·by_cases h2:l.length>4000
  ·exact⟨_,by rw[aC (decide_eq_false h1),aD (decide_eq_true (by omega)),aE],fun _=>.inr h2⟩
  ·exact⟨false,by rw[aC (decide_eq_false h1),aC (decide_eq_false (by omega)),aE],fun h=>by cases h⟩
def BK(l:List Pt):Prop:=l.length<=20/\∀p∈l,p.2.2.1.length<=12/\p.2.2.2.length<=12
theorem NS(m:Nat):iB (m+1)=iD (iB m):=rfl
theorem O2(l:List Pt)(hl:l.length<=1000):∀(k m i:Nat),i+k=l.length->k<m->∃b,iB m (i:Int) l=some b/\(b=true->∀p∈l.drop i,p.2.2.1.length<=12/\p.2.2.2.length<=12)
 |_,0,_,_,h=>absurd h (aah _)
 |0,m+1,i,h1,_=>by
  rw[NS];unfold iD;rw[aC (decide_eq_false (by omega)),aaC (by omega)];exact⟨true,rfl,fun _ p hp=>(aa7 hp).elim⟩
 |k+1,m+1,i,h1,h2=>by
  have hlt:i<l.length:=by omega
  obtain⟨b,nx,hb⟩:=O2 l hl k m (i+1) (by omega) (by omega);rw[NS];unfold iD;rw[aD (decide_eq_true (by omega)),cU (ν hlt),cU (ν hlt),aaJ hlt];by_cases h3:l[i].2.2.1.length>12
  ·rw[aD (decide_eq_true (by omega)),aE];exact⟨false,rfl,fun h=>by cases h⟩
  ·rw[aC (decide_eq_false (by omega)),aE];dsimp only;by_cases h4:l[i].2.2.2.length>12
   ·rw[aD (decide_eq_true (by omega))];exact⟨false,rfl,fun h=>by cases h⟩
   ·rw[aC (decide_eq_false (by omega)),aI (by omega) (by omega),show(i:Int)+1=((i+1:Nat):Int) by omega,nx];refine⟨b,rfl,fun h p hp=>?_⟩;rcases ω.1 hp with rfl|hp
    ·exact⟨by omega,by omega⟩
    ·exact hb h p hp
theorem bA7(hN:1000<=N)(l:List Pt):∃b,jM N l=some b/\(b=true->BK l):=by
 unfold jM;by_cases h:l.length>20
 ·exact⟨false,by rw[aD (decide_eq_true (by omega))],fun h=>by cases h⟩
 ·obtain⟨b,nx,hb⟩:=O2 l (by omega) l.length N 0 (by omega) (by omega);rw[aC (decide_eq_false (by omega))];exact⟨b,nx,fun h'=>⟨by omega,by have:=hb h';rwa[aaB]at this⟩⟩
theorem Pb(N m:Nat):lL N (m+1)=oX N (lL N m):=rfl
theorem JL{N:Nat}(hN:1000<=N)(l:List Vr)(hl:l.length<=1000):∀(k m i:Nat),i+k=l.length->k<m->∃b,lL N m l (i:Int)=some b/\(b=true->∀v∈l.drop i,BK (vp v))
 |_,0,_,_,h=>absurd h (aah _)
 |0,m+1,i,h1,_=>by
  rw[Pb];unfold oX;rw[aC (decide_eq_false (by omega)),aaC (by omega)];exact⟨true,rfl,fun _ p hp=>(aa7 hp).elim⟩
 |k+1,m+1,i,h1,h2=>by
  have hlt:i<l.length:=by omega
  obtain⟨b,nx,hb⟩:=JL hN l hl k m (i+1) (by omega) (by omega);obtain⟨c,hc,hc2⟩:=bA7 hN (vp l[i]);rw[Pb];unfold oX;rw[aD (decide_eq_true (by omega)),cU (ν hlt),show l[i].2.2.2.2.2.2.2=vp l[i]from rfl,hc,aE,aaJ hlt];cases c with
  |false=>exact⟨false,rfl,fun h=>by cases h⟩
  |true=>
   rw[aaQ,fG,aI (by omega) (by omega),show(i:Int)+1=((i+1:Nat):Int) by omega,nx];refine⟨b,rfl,fun h p hp=>?_⟩;rcases ω.1 hp with rfl|hp
   ·exact hc2 rfl
   ·exact hb h p hp
theorem VA(hN:1000<=N)(l:List Vr)(k:Int):∃b,sR N l k=some b/\(b=true->((l.length:Int)<=k\/l.length>400)/\l.length<=410/\∀v∈l,BK (vp v)):=by
 unfold sR;have fin:((l.length:Int)<=k\/l.length>400)->∃b,(bc (some (l,decide (((l.length:Nat):Int)>410))) fun w3=>bf (w3.2) (some (false)) (lL N N w3.1 0))=some b/\(b=true->((l.length:Int)<=k\/l.length>400)/\l.length<=410/\∀v∈l,BK (vp v)):=fun h0=>by
  rw[aE];dsimp only;by_cases h:l.length>410
  ·rw[aD (decide_eq_true (by omega))];exact⟨false,rfl,fun h=>by cases h⟩
  ·obtain⟨b,nx,hb⟩:=JL hN l (by omega) l.length N 0 (by omega) (by omega);rw[aC (decide_eq_false (by omega))];exact⟨b,nx,fun h'=>⟨h0,by omega,by have:=hb h';rwa[aaB]at this⟩⟩
 by_cases h1:(l.length:Int)>k
 ·rw[aD (decide_eq_true h1)];by_cases h2:l.length<=400
  ·rw[aD (decide_eq_true (by omega)),aE];exact⟨false,rfl,fun h=>by cases h⟩
  ·rw[aC (decide_eq_false (by omega))];exact fin (.inr (by omega))
 ·rw[aC (decide_eq_false h1)];exact fin (.inl (by omega))
structure zt (s:Sg):Prop where
 rd:s.2.1.length<=30\/s.2.1.length>4000
 vs:s.2.2.length<=30\/s.2.2.length>400
 vl:s.2.2.length<=410
 pt:∀v∈s.2.2,BK (vp v)
theorem WT(hN:1000<=N)(s:Sg):∃b,sQ N s 30=some b/\(b=true->zt s):=by unfold sQ;obtain⟨b,hb,hb2⟩:=Wj N s.2.1 30;obtain⟨c,hc,hc2⟩:=VA hN s.2.2 30;rw[hb,aE,hc,aE,uy,aE];refine⟨_,rfl,fun h=>?_⟩;rw[μ]at h;obtain⟨h1,h2,h3⟩:=hc2 h.2;have h4:=hb2 h.1;exact⟨by omega,by omega,h2,h3⟩
theorem Z9(hN:1000<=N)(l:List Rd)(vs:List Vr):∃b,oY N l vs=some b/\(b=true->zt (0,(l,vs))):=by unfold oY;obtain⟨b,hb,h⟩:=WT hN (0,(l,vs));rw[hb,aE];exact⟨b,rfl,h⟩
theorem zt.sm(h:zt s):qx s.2.2:=fun v hv p hp=>by have:=(h.pt v hv).2 p hp;exact⟨by omega,by omega⟩
theorem zt.pl(h:zt s):∀v∈s.2.2,(vp v).length<=100000:=fun v hv=>by have:=(h.pt v hv).1;omega
theorem EU{α:Type}[DecidableEq α]{l m:List α}{i:Nat}(h1:i<l.length)(h2:i<m.length):decide (l.drop i=m.drop i)=(decide (l[i]=m[i])&&decide (l.drop (i+1)=m.drop (i+1))):=by rw[aa9,μ,decide_eq_true_eq,decide_eq_true_eq,decide_eq_true_eq,aaJ h1,aaJ h2,List.cons_eq_cons]
theorem LY(m:Nat):nI (m+1)=nA (nI m):=rfl
theorem Ls(a b:List Rd)(hl:a.length=b.length)(hb:a.length<=1000000):∀(k m i:Nat),i+k=a.length->k<m->nI m a b (i:Int)=some (decide (a.drop i=b.drop i))
 |_,0,_,_,h=>absurd h (aah _)
 |0,m+1,i,h1,_=>by
  rw[LY];unfold nA;rw[aC (decide_eq_false (by omega)),aaC (by omega),aaC (by omega)];rfl
 |k+1,m+1,i,h1,h2=>by
  have ha:i<a.length:=by omega
  have hb':i<b.length:=by omega
  have nx:=Ls a b hl hb k m (i+1) (by omega) (by omega);rw[LY];unfold nA;rw[aD (decide_eq_true (by omega)),cU (ν ha),cU (ν hb'),Vj,EU ha hb'];cases decide (a[i]=b[i])with
  |false=>rfl
  |true=>rw[aaQ,fG,aI (by omega) (by omega),show(i:Int)+1=((i+1:Nat):Int) by omega,nx,acr]
theorem NP(hN:a.length<N)(hb:a.length<=1000000):iR N a b=some (decide (a=b)):=by
 unfold iR;by_cases h:a.length=b.length
 ·have:=Ls a b h hb a.length N 0 (by omega) hN;rw[show(((0:Nat):Int))=0 from rfl,aaB,aaB]at this;rw[aC (by rw[bne_eq_false_iff_eq];omega),this]
 ·rw[aD (by rw[bne_iff_ne];omega),decide_eq_false fun e=>h (by rw[e])]
theorem Dx(o x:Pt):(oA [(Sh.s 0),(Sh.s 2),(Sh.s 2)] (o.1==x.1) (oA [(Sh.s 2),(Sh.s 2)] (o.2.1==x.2.1) (oA [(Sh.s 2)] (o.2.2.1==x.2.2.1) (oA ([]:(List Sh)) (o.2.2.2==x.2.2.2) true))))=decide (o=x):=by obtain⟨a,b,c,d⟩:=o;obtain⟨a',b',c',d'⟩:=x;rw[aa9,decide_eq_true_eq];simp[oA]
theorem Ji(m:Nat):iC (m+1)=hZ (iC m):=rfl
theorem KQ(a b:List Pt)(hl:a.length=b.length)(hb:a.length<=1000000):∀(k m i:Nat),i+k=a.length->k<m->iC m (i:Int) a b=some (decide (a.drop i=b.drop i))
 |_,0,_,_,h=>absurd h (aah _)
 |0,m+1,i,h1,_=>by
  rw[Ji];unfold hZ;rw[aC (decide_eq_false (by omega)),aaC (by omega),aaC (by omega)];rfl
 |k+1,m+1,i,h1,h2=>by
  have ha:i<a.length:=by omega
  have hb':i<b.length:=by omega
  have nx:=KQ a b hl hb k m (i+1) (by omega) (by omega);rw[Ji];unfold hZ;rw[aD (decide_eq_true (by omega)),cU (ν ha),cU (ν hb'),Dx,EU ha hb'];cases decide (a[i]=b[i])with
  |false=>rfl
  |true=>rw[aaQ,fG,aI (by omega) (by omega),show(i:Int)+1=((i+1:Nat):Int) by omega,nx,acr]
theorem bRq{a b:List Pt}(hN:a.length<N)(hb:a.length<=1000000):jN N a b=some (decide (a=b)):=by
 unfold jN;by_cases h:a.length=b.length
 ·have:=KQ a b h hb a.length N 0 (by omega) hN;rw[show(((0:Nat):Int))=0 from rfl,aaB,aaB]at this;rw[aC (by rw[bne_eq_false_iff_eq];omega),this]
 ·rw[aD (by rw[bne_iff_ne];omega),decide_eq_false fun e=>h (by rw[e])]
theorem RP{a b:Vr}(hN:(vp a).length<N)(hb:(vp a).length<=1000000):nT N a b=some (decide (a=b)):=by
 unfold nT;rw[show a.2.2.2.2.2.2.2=vp a from rfl,show b.2.2.2.2.2.2.2=vp b from rfl,bRq hN hb,aE];simp only[uy,aE];refine congrArg some ?_;obtain⟨a1,a2,a3,a4,a5,a6,a7,a8⟩:=a;obtain⟨b1,b2,b3,b4,b5,b6,b7,b8⟩:=b;rw[aa9,decide_eq_true_eq];simp only[μ,decide_eq_true_eq,beq_iff_eq,Prod.mk.injEq];constructor
 ·rintro⟨h8,h1,h2,h3,h4,h5,h6,h7⟩;exact⟨h1,h2,h3,h4,h5,h6,h7,h8⟩
 ·rintro⟨h1,h2,h3,h4,h5,h6,h7,h8⟩;exact⟨h8,h1,h2,h3,h4,h5,h6,h7⟩
theorem OM(N m:Nat):iN N (m+1)=iM N (iN N m):=rfl
theorem Pa{N:Nat}(a b:List Vr)(hp:∀v∈a,(vp v).length<N/\(vp v).length<=1000000)(hl:a.length=b.length)(hb:a.length<=1000000):∀(k m i:Nat),i+k=a.length->k<m->iN N m a b (i:Int)=some (decide (a.drop i=b.drop i))
 |_,0,_,_,h=>absurd h (aah _)
 |0,m+1,i,h1,_=>by
  rw[OM];unfold iM;rw[aC (decide_eq_false (by omega)),aaC (by omega),aaC (by omega)];rfl
 |k+1,m+1,i,h1,h2=>by
  have ha:i<a.length:=by omega
  have hb':i<b.length:=by omega
  have nx:=Pa a b hp hl hb k m (i+1) (by omega) (by omega);have hq:=hp _ (abM ha);rw[OM];unfold iM;rw[aD (decide_eq_true (by omega)),cU (ν ha),cU (ν hb')];show bc (nT N a[i] b[i]) _=_;rw[RP hq.1 hq.2,aE,EU ha hb'];cases decide (a[i]=b[i])with
  |false=>rfl
  |true=>rw[aaQ,fG,aI (by omega) (by omega),show(i:Int)+1=((i+1:Nat):Int) by omega,nx,acr]
theorem y7{a b:List Vr}(hp:∀v∈a,(vp v).length<N/\(vp v).length<=1000000)(hN:a.length<N)(hb:a.length<=1000000):eT N a b=some (decide (a=b)):=by
 unfold eT;by_cases h:a.length=b.length
 ·have:=Pa a b hp h hb a.length N 0 (by omega) hN;rw[show(((0:Nat):Int))=0 from rfl,aaB,aaB]at this;rw[aC (by rw[bne_eq_false_iff_eq];omega),this]
 ·rw[aD (by rw[bne_iff_ne];omega),decide_eq_false fun e=>h (by rw[e])]
theorem V8{a b:Sg}(h1:a.2.1.length<N)(h2:a.2.1.length<=1000000)(hp:∀v∈a.2.2,(vp v).length<N/\(vp v).length<=1000000)(h3:a.2.2.length<N)(h4:a.2.2.length<=1000000):eZ N a b=some (decide (a=b)):=by
 unfold eZ;rw[NP h1 h2,aE,y7 hp h3 h4,aE];simp only[uy,aE];refine congrArg some ?_;obtain⟨a1,a2,a3⟩:=a;obtain⟨b1,b2,b3⟩:=b;rw[aa9,decide_eq_true_eq];simp only[μ,decide_eq_true_eq,beq_iff_eq,Prod.mk.injEq];constructor
 ·rintro⟨h1,h2,h3⟩;exact⟨h3,h1,h2⟩
 ·rintro⟨h1,h2,h3⟩;exact⟨h2,h3,h1⟩
theorem Kg{zs:List Int}(hs:zs.Pairwise (· <=·)):(Go.Lib.compact zs).Pairwise (· <·)/\∀x,x∈Go.Lib.compact zs↔x∈zs:=by
 have get:∀m,m<zs.length->zs.toArray[m]! =zs[m]!:=fun m h=>by simp
 have main:∀m,m<=zs.length->(Go.Lib.compactUpTo zs.toArray m).Pairwise (· <·)/\(∀x,x∈Go.Lib.compactUpTo zs.toArray m↔x∈zs.take m):=by
  intro m
  induction m with
  |zero=>intro _;simp[Go.Lib.compactUpTo]
  |succ m ih=>
   intro hm;obtain⟨i1,i2⟩:=ih (by omega);rw[Go.Lib.compactUpTo_succ];have e1:zs.take (m+1)=zs.take m++[zs[m]]:=abz (by omega);have e2:zs.toArray[m]! =zs[m]:=by simp[show m<zs.length by omega]
   have hle:∀x∈zs.take m,x<=zs[m]:=fun x hx=>by obtain⟨j,hj,rfl⟩:=List.getElem_of_mem hx;rw[aao]at hj;rw[List.getElem_take];exact abU.1 hs j m (by omega) (by omega) (by omega)
   by_cases hk:Go.Lib.keeps zs.toArray m=true
   ·rw[if_pos hk,e2,e1];have hlt:∀x∈zs.take m,x<zs[m]:=fun x hx=>by
     have h1:=hle x hx;rcases Nat.eq_zero_or_pos m with h0|h0
     ·subst h0;simp at hx
     ·have hne:zs[m-1]≠zs[m]:=by
       have hk2:=hk;unfold Go.Lib.keeps at hk2;simp at hk2;rcases hk2 with h|h
       ·omega
       ·have e3:m-1<zs.length:=by omega
        have e4:m<zs.length:=by omega
        simpa[e3,e4,eq_comm]using h
      obtain⟨j,hj,rfl⟩:=List.getElem_of_mem hx;rw[aao]at hj;rw[List.getElem_take]at h1|-;have h2:zs[j]<=zs[m-1]:=by
       rcases Nat.lt_or_ge j (m-1)with q|q
       ·exact abU.1 hs j (m-1) (by omega) (by omega) q
       ·have:j=m-1:=by omega
        subst this;exact Int.le_refl _
      have h3:zs[m-1]<=zs[m]:=abU.1 hs (m-1) m (by omega) (by omega) (by omega);omega
    refine⟨?_,fun x=>?_⟩
    ·rw[List.pairwise_append];refine⟨i1,by simp,fun a ha b hb=>?_⟩;rw[aai.1 hb];exact hlt a ((i2 a).1 ha)
    ·rw[aau,aau,i2]
   ·rw[if_neg hk,aag];refine⟨i1,fun x=>?_⟩;rw[i2,e1,aau,aai];constructor
    ·exact .inl
    ·rintro(h|rfl)
     ·exact h
     ·unfold Go.Lib.keeps at hk;simp at hk;obtain⟨h0,hk⟩:=hk;have e3:m-1<zs.length:=by omega
      have e4:m<zs.length:=by omega
      have:zs[m]=zs[m-1]:=by simpa[e3,e4]using hk
      rw[this];exact List.mem_iff_getElem.2 ⟨m-1,by rw[aao];omega,by rw[List.getElem_take]⟩
 obtain⟨h1,h2⟩:=main zs.length (me _);exact⟨h1,fun x=>by have:=h2 x;rw[acM]at this;exact this⟩
theorem Ql(N m:Nat):dL N (m+1)=dK N (dL N m):=rfl
theorem LH(N m:Nat):dJ N (m+1)=dN N (dJ N m):=rfl
def kR(d:Int)(r:Rd):Bool:=mj r==d
def kV(d:Int)(v:Vr):Bool:=m7 v==d
theorem PY(N:Nat)(l:List Rd)(d:Int)(hl:l.length<=100000):∀(k m i:Nat) (acc:List Rd),i+k=l.length->k<m->acc.length<=i->dL N m l ((l.length:Nat):Int) (i:Int) d acc=some (d,acc++(l.drop i).filter (kR d))
 |_,0,_,_,_,h,_=>absurd h (aah _)
 |0,m+1,i,acc,h1,_,_=>by
  rw[Ql];unfold dK;rw[aC (decide_eq_false (by omega)),aG,aaC (by omega),List.filter_nil,aag]
 |k+1,m+1,i,acc,h1,h2,h3=>by
  have hlt:i<l.length:=by omega
  rw[Ql];unfold dK;rw[aD (decide_eq_true (by omega)),cU (ν hlt)];unfold rF;rw[aE];dsimp only;rw[aaJ hlt];have nx:=fun acc' h3'=>PY N l d hl k m (i+1) acc' (by omega) (by omega) h3';cases hb:kR d l[i]with
  |false=>
   have hb':(l[i].2.2.2.2.2==d)=false:=hb;rw[hb',fG,aG,aE];dsimp only;rw[aI (by omega) (by omega),aG,show(i:Int)+1=((i+1:Nat):Int) by omega,nx acc (by omega),List.filter_cons_of_neg (by rw[hb];decide)]
  |true=>
   have hb':(l[i].2.2.2.2.2==d)=true:=hb;rw[hb',pF,aG,aB (by simp only[aaf,aaE];omega),aG,aE];dsimp only;rw[aI (by omega) (by omega),aG,show(i:Int)+1=((i+1:Nat):Int) by omega,nx _ (by simp;omega),List.filter_cons_of_pos (by rw[hb]),π];rfl
theorem MS(N:Nat)(l:List Vr)(d:Int)(hl:l.length<=100000):∀(k m i:Nat) (acc:List Vr),i+k=l.length->k<m->acc.length<=i->dJ N m l ((l.length:Nat):Int) (i:Int) d acc=some (d,acc++(l.drop i).filter (kV d))
 |_,0,_,_,_,h,_=>absurd h (aah _)
 |0,m+1,i,acc,h1,_,_=>by
  rw[LH];unfold dN;rw[aC (decide_eq_false (by omega)),aG,aaC (by omega),List.filter_nil,aag]
 |k+1,m+1,i,acc,h1,h2,h3=>by
  have hlt:i<l.length:=by omega
  rw[LH];unfold dN;rw[aD (decide_eq_true (by omega)),cU (ν hlt)];unfold rB;rw[aE];dsimp only;rw[aaJ hlt];have nx:=fun acc' h3'=>MS N l d hl k m (i+1) acc' (by omega) (by omega) h3';cases hb:kV d l[i]with
  |false=>
   have hb':(l[i].2.2.2.1==d)=false:=hb;rw[hb',fG,aG,aE];dsimp only;rw[aI (by omega) (by omega),aG,show(i:Int)+1=((i+1:Nat):Int) by omega,nx acc (by omega),List.filter_cons_of_neg (by rw[hb];decide)]
  |true=>
   have hb':(l[i].2.2.2.1==d)=true:=hb;rw[hb',pF,aG,aB (by simp only[aaf,aaE];omega),aG,aE];dsimp only;rw[aI (by omega) (by omega),aG,show(i:Int)+1=((i+1:Nat):Int) by omega,nx _ (by simp;omega),List.filter_cons_of_pos (by rw[hb]),π];rfl
def ik(l:List Rd)(vs:List Vr)(d:Int):Sg:=(d,(l.filter (kR d),vs.filter (kV d)))
theorem JY(d:Int)(hl:l.length<=100000)(hv:vs.length<=100000)(hN:100000<N):nG N l vs d=some (ik l vs d):=by unfold nG gL gK;have h1:=PY N l d hl l.length N 0 [] (by omega) (by omega) (me _);have h2:=MS N vs d hv vs.length N 0 [] (by omega) (by omega) (me _);rw[show(((0:Nat):Int))=0 from rfl,aa8,aaB]at h1 h2;rw[h1,aE];dsimp only;rw[oj,h2,aE];dsimp only;rw[oj,aG,aG];rfl
def ml(l:List Rd)(vs:List Vr):List Int:=Go.Lib.compact (l7 (l.map mj++vs.map m7))
theorem Rn(l:List Rd)(vs:List Vr):(ml l vs).Pairwise (· <·):=(Kg (vP _)).1
theorem CZ(l:List Rd)(vs:List Vr)(d:Int):d∈ml l vs↔(∃r∈l,mj r=d)\/∃v∈vs,m7 v=d:=by unfold ml;rw[(Kg (vP _)).2,(yQ _).mem_iff,aau,aaS,aaS]
theorem WV(l:List Rd)(vs:List Vr):(ml l vs).length<=l.length+vs.length:=by unfold ml;refine aaG (Gl _) ?_;rw[(yQ _).length_eq];simp
theorem Nx(N m:Nat):jE N (m+1)=jK N (jE N m):=rfl
theorem OB(N m:Nat):jL N (m+1)=jI N (jL N m):=rfl
theorem M4(N m:Nat):jO N (m+1)=jG N (jO N m):=rfl
theorem L7{N:Nat}(hN:100000<N)(D:List Int)(l:List Rd)(vs:List Vr)(hl:l.length<=100000)(hv:vs.length<=100000)(hD:D.length<=200000)(z:Int)(o:List Sg):∀(k m i:Nat) (acc:List Sg),i+k=D.length->k<m->acc.length<=i->
  jE N m ((D.length:Nat):Int) (i:Int) z D l vs o acc=some (0,acc++(D.drop i).map (ik l vs))
 |_,0,_,_,_,h,_=>absurd h (aah _)
 |0,m+1,i,acc,h1,_,_=>by
  rw[Nx];unfold jK;rw[aC (decide_eq_false (by omega)),aG,aaC (by omega),acH,aag]
 |k+1,m+1,i,acc,h1,h2,h3=>by
  have hlt:i<D.length:=by omega
  rw[Nx];unfold jK;rw[aD (decide_eq_true (by omega)),aB (by omega),aB (by omega),χ,eW (ν hlt),JY _ hl hv hN,aE,aG,aG,aG,aB (by simp only[aaf,aaE];omega),aI (by omega) (by omega),aG,aG,aG,show(i:Int)+1=((i+1:Nat):Int) by omega];refine(L7 hN D l vs hl hv hD z o k m (i+1) (acc++[ik l vs D[i]]) (by omega) (by omega) (by simp;omega)).trans ?_;rw[aaJ hlt,aaM,π];rfl
theorem OS{N:Nat}(hN:300000<N)(l:List Rd)(vs:List Vr)(hl:l.length<=100000)(hv:vs.length<=100000)(z:Int)(o:List Sg):∀(k m i:Nat) (acc:List Int),i+k=vs.length->k<m->acc.length<=100000+i->
  jL N m vs ((vs.length:Nat):Int) (i:Int) z acc l vs o []=some (0,(Go.Lib.compact (l7 (acc++(vs.drop i).map m7))).map (ik l vs))
 |_,0,_,_,_,h,_=>absurd h (aah _)
 |0,m+1,i,acc,h1,_,h3=>by
  have l1:(l7 acc).length=acc.length:=(yQ _).length_eq;have l2:=Gl (l7 acc);have e1:gI N acc=some (l7 acc):=by unfold gI;rw[if_pos (by omega)]
  have e2:eY N (l7 acc)=some (Go.Lib.compact (l7 acc)):=by unfold eY;rw[if_pos (by omega)]
  rw[OB];unfold jI;rw[aC (decide_eq_false (by omega)),aG,e1,aE,jF l1.symm,e2,aE,aG,aG,aG,aaC (by omega),acH,aag];have:=L7 (N:=N) (by omega) (Go.Lib.compact (l7 acc)) l vs hl hv (by omega) z o (Go.Lib.compact (l7 acc)).length N 0 [] (by omega) (by omega) (me _);rw[show(((0:Nat):Int))=0 from rfl,aaB,aa8]at this;exact this
 |k+1,m+1,i,acc,h1,h2,h3=>by
  have hlt:i<vs.length:=by omega
  rw[OB];unfold jI;rw[aD (decide_eq_true (by omega)),cU (ν hlt),aG,aB (by simp only[aaf,aaE];omega),aI (by omega) (by omega),aG,aG,aG,show(i:Int)+1=((i+1:Nat):Int) by omega];refine(OS hN l vs hl hv z o k m (i+1) (acc++[m7 vs[i]]) (by omega) (by omega) (by simp;omega)).trans ?_;rw[aaJ hlt,aaM,π];rfl
theorem N3{N:Nat}(hN:300000<N)(l:List Rd)(vs:List Vr)(hl:l.length<=100000)(hv:vs.length<=100000)(z:Int)(o:List Sg):∀(k m i:Nat) (acc:List Int),i+k=l.length->k<m->acc.length<=i->
  jO N m l ((l.length:Nat):Int) (i:Int) z vs acc l vs o []=some (0,(Go.Lib.compact (l7 (acc++(l.drop i).map mj++vs.map m7))).map (ik l vs))
 |_,0,_,_,_,h,_=>absurd h (aah _)
 |0,m+1,i,acc,h1,_,h3=>by
  rw[M4];unfold jG;rw[aC (decide_eq_false (by omega)),aG,aG,aG,aaC (by omega),acH,aag];have:=OS hN l vs hl hv z o vs.length N 0 acc (by omega) (by omega) (by omega);rw[show(((0:Nat):Int))=0 from rfl,aaB]at this;exact this
 |k+1,m+1,i,acc,h1,h2,h3=>by
  have hlt:i<l.length:=by omega
  rw[M4];unfold jG;rw[aD (decide_eq_true (by omega)),cU (ν hlt),aG,aB (by simp only[aaf,aaE];omega),aI (by omega) (by omega),aG,aG,aG,show(i:Int)+1=((i+1:Nat):Int) by omega];refine(N3 hN l vs hl hv z o k m (i+1) (acc++[mj l[i]]) (by omega) (by omega) (by simp;omega)).trans ?_;rw[aaJ hlt,aaM,π acc,List.singleton_append]
def lK(l:List Rd)(vs:List Vr):List Sg:=(ml l vs).map (ik l vs)
theorem Yn(hN:17179869184<N)(hs:qx vs):iX N l vs=some (if pg N l vs≠0 then(pg N l vs,[])else(0,lK l vs)):=by
 unfold iX;rw[HT hN hs,aE];by_cases h:pg N l vs=0
 ·obtain⟨h1,h2⟩:=tf.1 h;have l1:=((zQ _).1 h1).1;have l2:=((u4 _).1 h2).1;rw[aC (by rw[bne_eq_false_iff_eq];exact h),if_neg (by omega)];unfold qY;rw[aE];dsimp only;have:=N3 (N:=N) (by omega) l vs (by omega) (by omega) 0 [] l.length N 0 [] (by omega) (by omega) (me _);rw[show(((0:Nat):Int))=0 from rfl,aaB,aa8]at this;exact this
 ·rw[aD (by rw[bne_iff_ne];exact h),if_pos h]
theorem RS{v:Vr}(h:vr N v=true):wi (m7 v) 0 14609=true:=by
 have key:¬(v.2.2.2.1<0\/v.2.2.2.1>14609):=fun hb=>by
  have:cQ N v=some false:=by
   unfold cQ;simp only[Cu]
   repeat' split
   all_goals first|rfl|(simp_all;done)|(exfalso;simp_all;omega)
  unfold vr at h;rw[this]at h;cases h
 unfold wi;rw[μ,decide_eq_true_eq,decide_eq_true_eq];show v.2.2.2.1≥0/\v.2.2.2.1<=14609;omega
theorem ZS{r:Rd}(h:rr r=true):wi (mj r) 0 14609=true:=by unfold rr at h;simp only[μ]at h;exact h.2.2.2.2.2.2
structure Bk (N:Nat) (l:List Rd) (vs:List Vr):Prop where
 ck:pg N l vs=0
 sm:qx vs
 pl:∀v∈vs,(vp v).length<=100000
theorem Bk.r(h:Bk N l vs):l.length<=4000/\(∀y∈l,rr y=true)/\qm l:=(zQ _).1 (tf.1 h.ck).1
theorem Bk.v(h:Bk N l vs):vs.length<=400/\(∀y∈vs,vr N y=true)/\qt vs:=(u4 _).1 (tf.1 h.ck).2
theorem Bk.sub{l':List Rd}{vs':List Vr}(h:Bk N l vs)(h1:l'.Sublist l)(h2:vs'.Sublist vs):Bk N l' vs':=by obtain⟨a1,a2,a3⟩:=h.r;obtain⟨b1,b2,b3⟩:=h.v;have l1:=h1.length_le;have l2:=h2.length_le;exact⟨tf.2 ⟨(zQ _).2 ⟨by omega,fun y hy=>a2 y (h1.subset hy),a3.sublist h1⟩,(u4 _).2 ⟨by omega,fun y hy=>b2 y (h2.subset hy),b3.sublist h2⟩⟩,fun y hy=>h.sm y (h2.subset hy),fun y hy=>h.pl y (h2.subset hy)⟩
theorem Px(h:Bk N l vs)(hd:wi d 0 14609=true):G5 N (ik l vs d):=by have hs:=h.sub (ab5 (p:=kR d) (l:=l)) (ab5 (p:=kV d) (l:=vs));obtain⟨a1,a2,a3⟩:=hs.r;obtain⟨b1,b2,b3⟩:=hs.v;exact⟨hd,a1,a2,a3,b1,b2,b3,fun y hy=>by have:=(ξ.1 hy).2;unfold kR at this;exact beq_iff_eq.1 this,fun y hy=>by have:=(ξ.1 hy).2;unfold kV at this;exact beq_iff_eq.1 this⟩
theorem PU(h:Bk N l vs)(hd:d∈ml l vs):wi d 0 14609=true:=by
 rcases(CZ l vs d).1 hd with⟨r,hr,rfl⟩|⟨v,hv,rfl⟩
 ·exact ZS (h.r.2.1 r hr)
 ·exact RS (h.v.2.1 v hv)
theorem bM2(hd:d∈ml l vs):0<(ik l vs d).2.1.length+(ik l vs d).2.2.length:=by
 rcases(CZ l vs d).1 hd with⟨r,hr,e⟩|⟨v,hv,e⟩
 ·have:r∈(ik l vs d).2.1:=ξ.2 ⟨hr,by unfold kR;exact beq_iff_eq.2 e⟩;have:=List.length_pos_of_mem this;omega
 ·have:v∈(ik l vs d).2.2:=ξ.2 ⟨hv,by unfold kV;exact beq_iff_eq.2 e⟩;have:=List.length_pos_of_mem this;omega
theorem Oi(N m:Nat):kG N (m+1)=kI N (kG N m):=rfl
def fR(D:List Int)(l:List Rd):List Rd:=l.filter fun r=>decide (mj r∈D)
def fV(D:List Int)(l:List Vr):List Vr:=l.filter fun v=>decide (m7 v∈D)
theorem OY:∀{l:List Rd},qm l->∀x∈l,∀y∈l,j8 x y->x=y
 |[],_,x,hx,_,_,_=>(aa7 hx).elim
 |z::l,hs,x,hx,y,hy,e=>by
  have hs:=aax.1 hs;rcases ω.1 hx with hx'|hx'<;>rcases ω.1 hy with hy'|hy'
  ·rw[hx',hy']
  ·rw[hx']at e;exact(Jd (hs.1 y hy') e).elim
  ·rw[hy']at e;exact(Gj (hs.1 x hx') e).elim
  ·exact OY hs.2 x hx' y hy' e
theorem LD:∀{l:List Vr},qt l->qp l
 |[],_=>fun x hx=>(aa7 hx).elim
 |z::l,hs=>fun x hx y hy e1 e2=>by
  have hs:=aax.1 hs;rcases ω.1 hx with hx'|hx'<;>rcases ω.1 hy with hy'|hy'
  ·rw[hx',hy']
  ·subst hx';have:=hs.1 y hy';unfold gz at this;omega
  ·subst hy';have:=hs.1 x hx';unfold gz at this;omega
  ·exact LD hs.2 x hx' y hy' e1 e2
theorem FF(x:Rd):ur x x=x:=(RJ (d:=mj x) (O0 x) rfl rfl).2
theorem ZI(hN:8010<=N){c:List Rd}(hl:ra l=0)(ha:a.Sublist l)(hb:b.Sublist l)(hc:c.Sublist l)(hm:∀x,x∈c↔x∈a\/x∈b):cZ N a b=some (0,c):=by
 obtain⟨h1,h2,h3⟩:=(zQ l).1 hl;have la:=ha.length_le;have lb:=hb.length_le;have lc:=hc.length_le;have inj:=OY h3;have hrc:RC a b:=fun x hx y hy e=>by rw[inj x (ha.subset hx) y (hb.subset hy) e];exact O0 y
 rcases Yv (N:=N) (a:=a) (b:=b) hN ((zQ _).2 ⟨by omega,fun y hy=>h2 y (ha.subset hy),h3.sublist ha⟩) ((zQ _).2 ⟨by omega,fun y hy=>h2 y (hb.subset hy),h3.sublist hb⟩)with⟨g,_⟩|⟨_,L,g2,g3,_,g5⟩
 ·exact absurd hrc g
 ·have e:L=c:=Of g2 (h3.sublist hc) fun x=>by
   rw[g3,hm];constructor
   ·rintro(⟨h,_⟩|⟨h,_⟩|⟨y,hy,z,hz,e,rfl⟩)
    ·exact .inl h
    ·exact .inr h
    ·rw[<-inj y (ha.subset hy) z (hb.subset hz) e,FF];exact .inl hy
   ·rintro(h|h)
    ·by_cases hq:∃z∈b,j8 x z
     ·obtain⟨z,hz,e⟩:=hq;exact .inr (.inr ⟨x,h,z,hz,e,by rw[<-inj x (ha.subset h) z (hb.subset hz) e,FF]⟩)
     ·exact .inl ⟨h,fun y hy e=>hq ⟨y,hy,e⟩⟩
    ·by_cases hq:∃z∈a,j8 z x
     ·obtain⟨z,hz,e⟩:=hq;exact .inr (.inr ⟨z,hz,x,h,e,by rw[inj z (ha.subset hz) x (hb.subset h) e,FF]⟩)
     ·exact .inr (.inl ⟨h,fun y hy e=>hq ⟨y,hy,yK e⟩⟩)
  rw[g5,e];unfold Be;rw[if_neg (by omega)]
theorem ZN(hN:17179869184<N){l a b c:List Vr}(hs:qx l)(hp:∀v∈l,(vp v).length<=100000)(hl:ya N l=0)(ha:a.Sublist l)(hb:b.Sublist l)(hc:c.Sublist l)(hm:∀x,x∈c↔x∈a\/x∈b):cP N a b=some (0,c):=by
 obtain⟨h1,h2,h3⟩:=(u4 l).1 hl;have la:=ha.length_le;have lb:=hb.length_le;have lc:=hc.length_le;have ok:∀{d:List Vr},d.Sublist l->cS N d=some 0:=fun{d} hd=>by have ld:=hd.length_le;rw[NI hN fun v hv=>hs v (hd.subset hv),(u4 d).2 ⟨by omega,fun y hy=>h2 y (hd.subset hy),h3.sublist hd⟩]
 have hab:∀x∈a++b,x∈l:=fun x hx=>by
  rcases aau.1 hx with hx|hx
  ·exact ha.subset hx
  ·exact hb.subset hx
 have hcm:qp (a++b):=fun x hx y hy=>LD h3 x (hab x hx) y (hab y hy);have cv:jz N (a++b):=V4 hN (fun y hy=>h2 y (hab y hy)) (fun y hy=>hp y (hab y hy));rcases bPh (N:=N) (a:=a) (b:=b) (by omega) (by omega) (ok ha) (ok hb) cv with⟨g,_⟩|⟨_,W,k2,k3,k4⟩
 ·exact absurd hcm g
 ·have e:W=c:=Ld k2 (h3.sublist hc) fun x=>by rw[k3,hm]
  rcases k4 with⟨k4,_⟩|⟨_,k5⟩
  ·rw[e]at k4;omega
  ·rw[k5,e]
theorem NW(D:List Int)(l:List Rd):(fR D l).Sublist l:=ab5
theorem Oo(D:List Int)(l:List Vr):(fV D l).Sublist l:=ab5
theorem RM(D:List Int)(l:List Rd)(d:Int)(x:Rd):x∈fR (D++[d]) l↔x∈fR D l\/x∈l.filter (kR d):=by
 unfold fR kR;rw[ξ,ξ,ξ,decide_eq_true_eq,decide_eq_true_eq,aau,aai,beq_iff_eq];constructor
 ·rintro⟨h,h'|h'⟩
  ·exact .inl ⟨h,h'⟩
  ·exact .inr ⟨h,h'⟩
 ·rintro(⟨h,h'⟩|⟨h,h'⟩)
  ·exact⟨h,.inl h'⟩
  ·exact⟨h,.inr h'⟩
theorem bPn(D:List Int)(l:List Vr)(d:Int)(x:Vr):x∈fV (D++[d]) l↔x∈fV D l\/x∈l.filter (kV d):=by
 unfold fV kV;rw[ξ,ξ,ξ,decide_eq_true_eq,decide_eq_true_eq,aau,aai,beq_iff_eq];constructor
 ·rintro⟨h,h'|h'⟩
  ·exact .inl ⟨h,h'⟩
  ·exact .inr ⟨h,h'⟩
 ·rintro(⟨h,h'⟩|⟨h,h'⟩)
  ·exact⟨h,.inl h'⟩
  ·exact⟨h,.inr h'⟩
theorem J5{N:Nat}(hN:17179869184<N){l:List Rd}{vs:List Vr}(h:Bk N l vs)(O:List Sg)(hO:∀s∈O,s=ik l vs s.1/\wi s.1 0 14609=true)(hl:O.length<=100000):∀(k m i:Nat) (D:List Int),i+k=O.length->k<m->
  kG N m O ((O.length:Nat):Int) (i:Int) (fR D l) (fV D vs)=some (0,(fR (D++(O.drop i).map (·.1)) l,fV (D++(O.drop i).map (·.1)) vs))
 |_,0,_,_,_,h=>absurd h (aah _)
 |0,m+1,i,D,h1,_=>by
  rw[Oi];unfold kI;rw[aC (decide_eq_false (by omega)),aG,aG,aaC (by omega),acH,aag]
 |k+1,m+1,i,D,h1,h2=>by
  have hlt:i<O.length:=by omega
  obtain⟨e,hw⟩:=hO _ (abM hlt);have ok:G5 N O[i]:=by rw[e];exact Px h hw
  have sm:qx O[i].2.2:=by rw[e];exact fun v hv=>h.sm v (ξ.1 hv).1
  have hc:cR N (O[i].1,(O[i].2.1,O[i].2.2))=some 0:=(PI hN (s:=O[i]) sm).trans (congrArg some (Kr.2 ok));have e1:O[i].2.1=l.filter (kR O[i].1):=congrArg (fun s:Sg=>s.2.1) e;have e2:O[i].2.2=vs.filter (kV O[i].1):=congrArg (fun s:Sg=>s.2.2) e;have m1:cZ N (fR D l) O[i].2.1=some (0,fR (D++[O[i].1]) l):=by rw[e1];exact ZI (by omega) (tf.1 h.ck).1 (NW _ _) ab5 (NW _ _) (RM D l _)
  have m2:cP N (fV D vs) O[i].2.2=some (0,fV (D++[O[i].1]) vs):=by rw[e2];exact ZN hN h.sm h.pl (tf.1 h.ck).2 (Oo _ _) ab5 (Oo _ _) (bPn D vs _)
  rw[Oi];unfold kI;rw[aD (decide_eq_true (by omega)),cU (ν hlt),hc,aE,aC (by rfl),aG,m1,aE,aC (by rfl),aG,m2,aE,aC (by rfl),aI (by omega) (by omega),aG,aG,show(i:Int)+1=((i+1:Nat):Int) by omega,J5 hN h O hO hl k m (i+1) (D++[O[i].1]) (by omega) (by omega),aaJ hlt,aaM,π,List.singleton_append]
theorem Tj(hN:17179869184<N)(h:Bk N l vs)(O:List Sg)(hO:∀s∈O,s∈lK l vs)(hA:∀s∈lK l vs,s∈O)(hl:O.length<=100000):kB N O=some (0,(l,vs)):=by
 unfold kB;have:=J5 hN h O (fun s hs=>by
  obtain⟨d,hd,rfl⟩:=aaS.1 (hO s hs);exact⟨rfl,PU h hd⟩) hl O.length N 0 [] (by omega) (by omega)
 rw[show(((0:Nat):Int))=0 from rfl,aaB,aa8,show fR [] l=[] by unfold fR;simp,show fV [] vs=[] by unfold fV;simp]at this;have hd:∀d∈ml l vs,d∈O.map (·.1):=fun d hd=>aaS.2 ⟨_,hA _ (aaS.2 ⟨d,hd,rfl⟩),rfl⟩;have e1:fR (O.map (·.1)) l=l:=List.filter_eq_self.2 fun r hr=>decide_eq_true (hd _ ((CZ l vs _).2 (.inl ⟨r,hr,rfl⟩)));have e2:fV (O.map (·.1)) vs=vs:=List.filter_eq_self.2 fun v hv=>decide_eq_true (hd _ ((CZ l vs _).2 (.inr ⟨v,hv,rfl⟩)));rw[e1,e2]at this;exact this
theorem bM7(hN:17179869184<N)(h:Bk N l vs)(hd:wi d 0 14609=true):kL N l vs d=some (d,((ik l vs d).2.1,((ik l vs d).2.2,0))):=by unfold kL;have l1:=h.r.1;have l2:=h.v.1;rw[HT hN h.sm,aE,aC (by rw[bne_eq_false_iff_eq];exact h.ck),P6,hd,aE,aaQ,fG,JY d (by omega) (by omega) (by omega),aE,aG,aG];rfl
theorem MX(N m:Nat):gA N (m+1)=fZ N (gA N m):=rfl
theorem Mg(N m:Nat):fX N (m+1)=fY N (fX N m):=rfl
theorem K9{a b:Int}(h0:0<=a)(h1:0<b):0<=Int.tmod a b/\Int.tmod a b<b:=⟨Int.tmod_nonneg b h0,Int.tmod_lt_of_pos a h1⟩
theorem bPu(hN:17179869184<N)(h:Bk N l vs):iR N l l=some true/\eT N vs vs=some true:=by have l1:=h.r.1;have l2:=h.v.1;exact⟨(NP (by omega) (by omega)).trans (congrArg some (decide_eq_true rfl)),(y7 (fun v hv=>by have:=h.pl v hv;exact⟨by omega,by omega⟩) (by omega) (by omega)).trans (congrArg some (decide_eq_true rfl))⟩
theorem GH{N:Nat}(hN:17179869184<N)(hs:fB N=some true){l:List Rd}{vs:List Vr}(h:Bk N l vs)(pl:List Int)(hp:∀x∈pl,0<=x/\x<256)(hpl:pl.length<=1000)(hq:(lK l vs).length<=10000):∀(k m i:Nat) (O:List Sg),i+k=pl.length->k<m->O.length<=10000+i->(∀s∈O,s∈lK l vs)->(∀s∈lK l vs,s∈O)->gA N m l vs pl ((pl.length:Nat):Int) (i:Int) (lK l vs) O=some true
 |_,0,_,_,_,h,_,_,_=>absurd h (aah _)
 |0,m+1,i,O,h1,_,h3,hO,hA=>by
  obtain⟨s1,s2⟩:=bPu hN h;rw[MX];unfold fZ;rw[aC (decide_eq_false (by omega)),aG,Tj hN h O hO hA (by omega),aE,hs,aE,pF,aD (by rfl),aG,s1,aE,pF,aG,s2,aE,aE]
 |k+1,m+1,i,O,h1,h2,h3,hO,hA=>by
  have hlt:i<pl.length:=by omega
  obtain⟨b0,b1⟩:=hp _ (abM hlt);rw[MX];unfold fZ;rw[aD (decide_eq_true (by omega)),cU (ν hlt)];by_cases hz:0<(lK l vs).length
  ·obtain⟨t0,t1⟩:=K9 b0 (show(0:Int)<(((lK l vs).length:Nat):Int) by omega);rw[aD (decide_eq_true (by omega)),aB (by omega),Ab (by omega) (by omega)];generalize Int.tmod pl[i] (((lK l vs).length:Nat):Int)=t at t0 t1;have ht:t.toNat<(lK l vs).length:=by omega
   rw[aB t0,aB t1,eW (ν ht),aG,aB (by simp only[aaf,aaE];omega),aG,aG,aE];dsimp only;rw[aI (by omega) (by omega),aG,aG,show(i:Int)+1=((i+1:Nat):Int) by omega];refine GH hN hs h pl hp hpl hq k m (i+1) (O++[(lK l vs)[t.toNat]]) (by omega) (by omega) (by simp;omega) (fun s hs=>?_) (fun s hs=>aau.2 (.inl (hA s hs)));rcases aau.1 hs with hs|hs
   ·exact hO s hs
   ·rw[aai.1 hs];exact abM ht
  ·rw[aC (decide_eq_false (by omega)),aG,aG,aE];dsimp only;rw[aI (by omega) (by omega),aG,aG,show(i:Int)+1=((i+1:Nat):Int) by omega];exact GH hN hs h pl hp hpl hq k m (i+1) O (by omega) (by omega) (by omega) hO hA
theorem XQ{B C:Option α}{K:α->Option β}{r:Option β}(T:α)(hb:c=true->B=some T)(hc:c=false->C=some T)(hk:K T=r):bc (bf c B C) K=r:=by
 cases c with
 |true=>rw[pF,hb rfl];exact hk
 |false=>rw[fG,hc rfl];exact hk
theorem YQ{a:Option α}{K:α->Option β}{r:Option β}(P:α->Prop)(ha:∃x,a=some x/\P x)(hk:∀x,P x->K x=r):bc a K=r:=by obtain⟨x,rfl,hx⟩:=ha;exact hk x hx
theorem Kc{N:Nat}(hN:17179869184<N)(hs:fB N=some true){l:List Rd}{vs:List Vr}(h:Bk N l vs)(pl:List Int)(hp:∀x∈pl,0<=x/\x<256)(hpl:pl.length<=1000)(hq:(lK l vs).length<=10000):∀(k m i:Nat) (O:List Sg),i+k=(lK l vs).length->k<m->O.length<=i->(∀s∈O,s∈lK l vs)->(∀s∈(lK l vs).take i,s∈O)->fX N m l vs pl (((lK l vs).length:Nat):Int) (i:Int) (lK l vs) O=some true
 |_,0,_,_,_,h,_,_,_=>absurd h (aah _)
 |0,m+1,i,O,h1,_,h3,hO,hA=>by
  rw[Mg];unfold fY;rw[aC (decide_eq_false (by omega)),aG,aG];exact GH hN hs h pl hp hpl hq pl.length N 0 O (by omega) (by omega) (by omega) hO (fun s hs=>hA s (by rw[aav (by omega)];exact hs))
 |k+1,m+1,i,O,h1,h2,h3,hO,hA=>by
  have hlt:i<(lK l vs).length:=by omega
  have hlt':i<(ml l vs).length:=by unfold lK at hlt;rwa[κ]at hlt
  have e:(lK l vs)[i]=ik l vs (ml l vs)[i]:=by simp[lK]
  have hd:(ml l vs)[i]∈ml l vs:=abM hlt';have hw:=PU h hd;have ok:=Px h hw;have hne:=bM2 hd;have l1:=h.r.1;have l2:=h.v.1;generalize hdd:(ml l vs)[i]=d at e hd hw ok hne;have hof:kL N l vs (ik l vs d).1=some (d,((ik l vs d).2.1,((ik l vs d).2.2,0))):=bM7 hN h hw;have sm:qx (ik l vs d).2.2:=fun v hv=>h.sm v (ξ.1 hv).1;have hck:cR N ((ik l vs d).1,((ik l vs d).2.1,(ik l vs d).2.2))=some 0:=(PI hN (s:=ik l vs d) sm).trans (congrArg some (Kr.2 ok));have k1:=ok.len;have k2:=ok.A6;have hsame:eZ N (d,((ik l vs d).2.1,(ik l vs d).2.2)) ((ik l vs d).1,((ik l vs d).2.1,(ik l vs d).2.2))=some true:=(V8 (a:=ik l vs d) (b:=ik l vs d) (by omega) (by omega) (fun v hv=>by have:=h.pl v (ξ.1 hv).1;exact⟨by omega,by omega⟩) (by omega) (by omega)).trans (congrArg some (decide_eq_true rfl));rw[Mg];unfold fY;rw[aD (decide_eq_true (by omega)),aB (by omega),aB (by omega),χ,eW (ν hlt),e,hof,aE];dsimp only;rw[hck,aE,aC (by rfl)];have hsum:((((ik l vs d).2.1.length:Nat):Int)+(((ik l vs d).2.2.length:Nat):Int)==0)=false:=by rw[beq_eq_false_iff_ne];omega
  refine XQ (l,vs,pl,(i:Int),(((lK l vs).length:Nat):Int),(i:Int),false,lK l vs,O,(ik l vs d).1,(ik l vs d).2.1,(ik l vs d).2.2) (fun hi=>?_) (fun hi=>?_) ?_
  ·have hi:0<i:=by have:=of_decide_eq_true hi;omega
   have hlt2:i-1<(lK l vs).length:=by omega
   have hlt3:i-1<(ml l vs).length:=by omega
   have e2:(lK l vs)[i-1]=ik l vs (ml l vs)[i-1]:=by simp[lK]
   have hlt4:(ml l vs)[i-1]<d:=by rw[<-hdd];exact abU.1 (Rn l vs) (i-1) i hlt3 hlt' (by omega)
   rw[aI (by omega) (by omega),aB (by omega),aB (by omega),show((i:Int)-1).toNat=i-1 by omega,eW (ν hlt2),e2,aC (decide_eq_false (by show¬d<=(ml l vs)[i-1];omega)),aI (by omega) (by omega),hsum,fG,aC (by rfl),hsame,aE,aG,aG,aG];rfl
  ·rw[aI (by omega) (by omega),hsum,fG,aC (by rfl),hsame,aE,aG,aG,aG];rfl
  ·dsimp only;rw[fG];refine YQ (fun x=>∃t:Int,0<=t/\t<=(O.length:Int)/\x=(l,vs,pl,t,(((lK l vs).length:Nat):Int),(i:Int),lK l vs,O,(ik l vs d).1,(ik l vs d).2.1,(ik l vs d).2.2)) ?_ ?_
   ·by_cases hi:i<pl.length
    ·obtain⟨b0,b1⟩:=hp _ (abM hi);obtain⟨t0,t1⟩:=K9 b0 (show(0:Int)<(O.length:Int)+1 by omega);rw[aD (decide_eq_true (by omega)),cU (ν hi),aI (by omega) (by omega),aB (by omega),aG,aG,aG,Ab (by omega) (by omega)];exact⟨_,rfl,_,t0,by omega,rfl⟩
    ·rw[aC (decide_eq_false (by omega)),aG,aG,aG];exact⟨_,rfl,0,by omega,by omega,rfl⟩
   ·rintro _ ⟨t,t0,t1,rfl⟩;have lt1:(aaq t.toNat O).length<=O.length:=by rw[aao];omega
    have e3:aaq (O.length-t.toNat) (aaD t.toNat O)=aaD t.toNat O:=aav (by rw[aat];omega);have lt2:(aaD t.toNat O).length<=O.length:=by rw[aat];omega
    simp only[aaB,oj,Sn,aG,e3];rw[aB t0,aB (by omega),aB (by omega),aB (by omega),aB (by simp only[aaf,aaE];omega),aB t0,aB (by omega),aB (me _),aB (by omega),aB (by simp only[ε,aaf,aaE];omega),aI (by omega) (by omega),show(i:Int)+1=((i+1:Nat):Int) by omega];have key:∀s∈O,s∈(aaq t.toNat O++[ik l vs d])++aaD t.toNat O:=fun s hs=>by
     rw[<-List.take_append_drop t.toNat O]at hs;rcases aau.1 hs with hs|hs
     ·exact aau.2 (.inl (aau.2 (.inl hs)))
     ·exact aau.2 (.inr hs)
    refine Kc hN hs h pl hp hpl hq k m (i+1) ((aaq t.toNat O++[ik l vs d])++aaD t.toNat O) (by omega) (by omega) (by simp only[ε,aaf,aaE,aao,aat];omega) (fun s hs=>?_) (fun s hs=>?_)
    ·rcases aau.1 hs with hs|hs
     ·rcases aau.1 hs with hs|hs
      ·exact hO s (List.mem_of_mem_take hs)
      ·rw[aai.1 hs,<-e];exact abM hlt
     ·exact hO s (List.mem_of_mem_drop hs)
    ·rw[abz hlt]at hs;rcases aau.1 hs with hs|hs
     ·exact key s (hA s hs)
     ·rw[aai.1 hs,e];exact aau.2 (.inl (aau.2 (.inr (aai.2 rfl))))
theorem Q2(hN:17179869184<N)(hs:fB N=some true)(l:List Rd)(vs:List Vr)(pl:List Int)(hp:∀x∈pl,0<=x/\x<256):gP N l vs pl=some true:=by
 unfold gP;obtain⟨b,hb,fb⟩:=Z9 (N:=N) (by omega) l vs;rw[hb,aE];cases b with
 |false=>rw[abF,pF,aE];dsimp only;rw[pF,hs,aE]
 |true=>
  have f:=fb rfl;rw[aaQ,fG,aE];dsimp only;by_cases hl:pl.length>40
  ·rw[aD (decide_eq_true (by omega)),hs,aE]
  ·have fs:qx vs:=f.sm;have fpl:∀v∈vs,(vp v).length<=100000:=f.pl;rw[aC (decide_eq_false (by omega)),Yn hN fs,aE];by_cases hk:pg N l vs=0
   ·rw[if_neg (by omega),aC (by rfl),aG,aG];have bk:Bk N l vs:=⟨hk,fs,fpl⟩;have l1:=bk.r.1;have l2:=bk.v.1;have l3:=WV l vs;have hq:(lK l vs).length<=10000:=by unfold lK;rw[κ];omega
    exact Kc hN hs bk pl hp (by omega) hq (lK l vs).length N 0 [] (by omega) (by omega) (Nat.zero_le _) (fun s hs=>(aa7 hs).elim) (fun s hs=>by rw[List.take_zero]at hs;exact(aa7 hs).elim)
   ·rw[if_pos hk,aD (by rw[bne_iff_ne];exact hk),hs,aE,pF,aE];rfl
end Go.Proofs.Tryz
set_option maxRecDepth 8000
namespace Go.Proofs.Tryz
open Go.Eng Go.RowKit
theorem Se:fB 17179869200=some true:=by kernel_rfl
end Go.Proofs.Tryz
set_option maxRecDepth 8000
namespace Go.Proofs.Tryz
open Go.Eng Go.RowKit Go.Lib
abbrev OH:Ty:=(.sl tB)
abbrev Ky:Ty:=(.sl tA)
abbrev lP:List Ty:=[OH,Ky,.sl (.i .u8)]
theorem YP{l:List Int}(h:(Ty.sl (.i .u8)).ok l):∀x∈l,0<=x/\x<256:=fun x hx=>by
 have h1:IntKind.min .u8<=x/\x<=IntKind.max .u8:=h.2 x hx;have e1:IntKind.min .u8=0:=by decide
 have e2:IntKind.max .u8=255:=by decide
 rw[e1,e2]at h1;omega
theorem Ra(N:Nat)(x0:OH.T)(x1:Ky.T)(x2:List Int)(h:gP N x0 x1 x2=some true):de Tryz.prog 5 (y8 lP (x0,(x1,(x2,())))) [] (.D (.B true)) [] []:=
 letI:YL:=⟨0⟩
 xZ N (x0,(x1,(x2,()))) true h [] rfl
theorem ox:∀x:cn lP,BP lP x->de Tryz.prog 5 (y8 lP x) [] (.D (.B true)) [] []
 |(x0,(x1,(x2,()))),hx=>Ra 17179869200 x0 x1 x2 (Q2 (by omega) Se x0 x1 x2 (YP hx.2.2.1))
end Go.Proofs.Tryz

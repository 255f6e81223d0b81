/- Texts of this claim. -/
import Derived.Test.YtoklpgfaedjjpaaGreatDoorLA
import Derived.Test.YtoklpgfaedjjpaaGreatDoorYB
open BitVec renaming ofInt->adq,ofInt_natCast->abM,toNat_ofNat->abX
open Bool renaming false_or->acf,not_false->abk,not_true->aaF
open Go.IntKind renaming bits->abQ,wrap->δ
open Int renaming add_zero->abH,ediv_eq_zero_of_lt->ac5,ediv_nonneg->acS,eq_ofNat_of_zero_le->abN,le_of_lt->acd,le_refl->ady,lt_or_eq_of_le->acW,mul_comm->adp,mul_le_mul_of_nonneg_left->aaR,mul_le_mul_of_nonneg_right->aaQ,mul_nonneg->abD,mul_zero->abG,natCast_mul->abb,natCast_pow->adi,toNat_natCast->π,zero_add->ac6
open List renaming append_assoc->ν,append_nil->aac,concat_eq_append->acz,cons_append->ab5,drop->aaV,dropWhile_cons->adn,drop_append_of_le_length->abq,drop_drop->abc,drop_eq_getElem_cons->aaD,drop_of_length_le->aar,drop_set_of_lt->ach,drop_zero->aax,eq_nil_or_concat->acy,getD_eq_getElem?_getD->aan,getElem?_append_left->aak,getElem?_append_right->aam,getElem?_drop->abe,getElem?_eq_none->aay,getElem?_eq_some_iff->χ,getElem?_of_mem->aaK,getElem?_set_ne->ab0,getElem?_set_self->acs,getElem?_take_of_lt->aaH,length_append->ε,length_cons->aab,length_drop->aaz,length_eq_one_iff->ac2,length_eq_zero_iff->aas,length_map->κ,length_nil->aaC,length_replicate->aaX,length_reverse->acQ,length_set->aa5,length_take->aaq,mem_append->aaj,mem_cons->υ,mem_cons_of_mem->aaa,mem_of_getElem?->aat,mem_singleton->aap,nil_append->aaW,pairwise_append->abl,pairwise_cons->aav,pairwise_singleton->acZ,replicate->aag,take->aaE,take_append_drop->aa8,take_left'->adj,take_length->adb,take_of_length_le->aaw,take_set_of_le->adl,take_succ_eq_append_getElem->aca,take_zero->abP
open Nat renaming div_add_mod->adk,div_lt_of_lt_mul->adh,eq_zero_or_pos->aba,exists_eq_add_of_le->acn,le_of_lt->acq,le_of_not_lt->acJ,le_refl->me,le_trans->aaJ,lt_of_lt_of_le->aa0,lt_of_not_le->ack,min_eq_left->abw,mod_eq_of_lt->ab6,mod_lt->acg,mul_comm->acM,mul_le_mul_right->aaG,not_lt_zero->aah,pow_le_pow_right->aa3,pow_succ->ac7,strongRecOn->abE,zero_le->aa2
open UInt8 renaming toNat_inj->acT,toNat_ofNat'->acr
set_option linter.all false
namespace Go.Nt
variable{l:List Int}{n:Nat}{d:Int}
def lv:List Int->Int
 |[]=>0
 |d::l=>d+4294967296*lv l
def fj:List Int->Prop
 |[]=>True
 |d::l=>(0<=d/\d<4294967296)/\fj l
theorem nA:∀{l:List Int},fj l->0<=lv l
 |[],_=>ady 0
 |d::l,h=>by have:=nA h.2;have:=h.1;show 0<=d+4294967296*lv l;omega
theorem pK:∀{a c:List Int},fj (a++c)↔fj a/\fj c
 |[],c=>⟨fun h=>⟨trivial,h⟩,fun h=>h.2⟩
 |d::a,c=>by show(_/\fj (a++c))↔(_/\fj a)/\fj c;rw[pK];exact and_assoc.symm
theorem qM:∀{l:List Int},fj l↔∀d∈l,0<=d/\d<4294967296
 |[]=>⟨fun _ _ h=>by simp at h,fun _=>trivial⟩
 |d::l=>by show(_/\fj l)↔_;rw[qM];simp
theorem dM{i:Nat}(h:fj l)(e:l[i]?=some d):0<=d/\d<4294967296:=qM.1 h d (aat e)
theorem jB(n:Nat)(h:fj l):fj (l.drop n):=qM.2 fun d hd=>qM.1 h d (List.mem_of_mem_drop hd)
theorem fV(n:Nat)(h:fj l):fj (l.take n):=qM.2 fun d hd=>qM.1 h d (List.mem_of_mem_take hd)
theorem Eb{i:Nat}(h:fj l)(h0:0<=d/\d<4294967296):fj (l.set i d):=qM.2 fun x hx=>by
 rcases List.mem_or_eq_of_mem_set hx with h1|h1
 ·exact qM.1 h x h1
 ·subst h1;exact h0
theorem FE(n:Nat):fj (aag n 0):=qM.2 fun d hd=>by rw[(List.mem_replicate.1 hd).2];decide
def W(n:Nat):Int:=4294967296^n
theorem W0:W 0=1:=rfl
theorem W1:W 1=4294967296:=rfl
theorem Ws(n:Nat):W (n+1)=4294967296*W n:=by unfold W;rw[Int.pow_succ,adp]
theorem Wp(n:Nat):0<W n:=by
 induction n with
 |zero=>decide
 |succ n ih=>rw[Ws];omega
theorem Wa(m n:Nat):W (m+n)=W m*W n:=by unfold W;exact Int.pow_add _ _ _
theorem uH:∀(a c:List Int),lv (a++c)=lv a+W a.length*lv c
 |[],c=>by show lv c=0+W 0*lv c;rw[W0];omega
 |d::a,c=>by show d+4294967296*lv (a++c)=d+4294967296*lv a+W (a.length+1)*lv c;rw[uH a c,Ws];grind
theorem qK:∀{l:List Int},fj l->lv l<W l.length
 |[],_=>by decide
 |d::l,h=>by have:=qK h.2;have:=h.1;show d+4294967296*lv l<W (l.length+1);rw[Ws];omega
theorem Cy(n:Nat):lv (aag n 0)=0:=by
 induction n with
 |zero=>rfl
 |succ n ih=>show 0+4294967296*lv (aag n 0)=0;rw[ih];rfl
theorem gA(l:List Int)(n:Nat)(h:n<=l.length):lv l=lv (l.take n)+W n*lv (l.drop n):=by have:=uH (l.take n) (l.drop n);rw[aa8,aaq,abw h]at this;exact this
theorem gM(h:l[n]?=some d):lv (l.drop n)=d+4294967296*lv (l.drop (n+1)):=by obtain⟨hn,rfl⟩:=χ.1 h;rw[aaD hn];rfl
theorem iI(h:l.length<=n):lv (l.drop n)=0:=by rw[List.drop_eq_nil_of_le h];rfl
theorem Bn(h:l[n]?=some d):lv (l.take (n+1))=lv (l.take n)+W n*d:=by obtain⟨hn,rfl⟩:=χ.1 h;rw[aca hn,uH,aaq,abw (by omega)];show _+W n*(l[n]+4294967296*0)=_;rw[abG,abH]
theorem GW{e:Int}(h:l[n]?=some d):lv (l.set n e)=lv l+W n*(e-d):=by obtain⟨hn,hd⟩:=χ.1 h;have h1:=gA l n (by omega);have h2:=gA (l.set n e) n (by rw[aa5];omega);rw[gM h]at h1;rw[gM (d:=e) (by rw[acs hn]),adl (by omega),ach (by omega)]at h2;rw[h1,h2];grind
def dg(n:Nat):List Int:=if h:n=0 then[]else((n%4294967296:Nat):Int)::dg (n/4294967296)
termination_by n
decreasing_by omega
theorem td:dg 0=[]:=by unfold dg;simp
theorem Ce(h:n≠0):dg n=((n%4294967296:Nat):Int)::dg (n/4294967296):=by rw[dg];simp[h]
theorem Oa(n:Nat):fj (dg n)/\lv (dg n)=n:=by
 induction n using abE with
 |ind n ih=>
  by_cases h:n=0
  ·subst h;rw[td];exact⟨trivial,rfl⟩
  ·obtain⟨h1,h2⟩:=ih (n/4294967296) (by omega);rw[Ce h];refine⟨⟨by omega,h1⟩,?_⟩;show((n%4294967296:Nat):Int)+4294967296*lv (dg (n/4294967296))=n;rw[h2];omega
theorem iJ(n:Nat):lv (dg n)=n:=(Oa n).2
theorem dP(n:Nat):fj (dg n):=(Oa n).1
theorem R7{a b:Nat}(h:dg a=dg b):a=b:=by have:=congrArg lv h;rw[iJ,iJ]at this;omega
theorem RN{a:Nat}:dg a=[]↔a=0:=⟨fun h=>R7 (h.trans td.symm),fun h=>by rw[h,td]⟩
theorem Ou:∀{l:List Int} {d:Int},fj l->0<d->d<4294967296->dg (lv (l++[d])).toNat=l++[d]
 |[],d,_,h1,h2=>by
  have:(lv ([]++[d])).toNat=d.toNat:=by show(d+4294967296*0).toNat=_;congr 1;omega
  rw[this,Ce (by omega),show d.toNat/4294967296=0 by omega,td];show[_]=[d];congr 1;omega
 |x::l,d,h,h1,h2=>by
  have ih:=Ou (l:=l) h.2 h1 h2;have hp:0<=lv (l++[d]):=nA (pK.2 ⟨h.2,⟨by omega,h2⟩,trivial⟩);have hq:0<lv (l++[d]):=by
   rcases acW hp with h0|h0
   ·exact h0
   ·rw[<-h0]at ih;rw[show(0:Int).toNat=0 from rfl,td]at ih;simp at ih
  have:=h.1;have e:lv (x::l++[d])=x+4294967296*lv (l++[d]):=rfl;rw[e,Ce (by omega)];have e1:(x+4294967296*lv (l++[d])).toNat/4294967296=(lv (l++[d])).toNat:=by omega
  have e2:(((x+4294967296*lv (l++[d])).toNat%4294967296:Nat):Int)=x:=by omega
  rw[e1,e2,ih];rfl
theorem Nh(h:n≠0):∃l d,dg n=l++[d]/\fj l/\0<d/\d<4294967296:=by
 induction n using abE with
 |ind n ih=>
  by_cases h0:n/4294967296=0
  ·exact⟨[],((n%4294967296:Nat):Int),by rw[Ce h,h0,td];rfl,trivial,by omega,by omega⟩
  ·obtain⟨l,d,e,h1,h2⟩:=ih (n/4294967296) (by omega) h0;exact⟨((n%4294967296:Nat):Int)::l,d,by rw[Ce h,e];rfl,⟨by omega,h1⟩,h2⟩
theorem rM{k:Nat}(h:(n:Int)<W k):(dg n).length<=k:=by
 by_cases h0:n=0
 ·subst h0;rw[td];exact aa2 k
 ·obtain⟨l,d,e,h1,h2,h3⟩:=Nh h0;have hv:=iJ n;rw[e,uH]at hv;have:lv [d]=d:=by show d+4294967296*0=d;omega
  rw[this]at hv;rw[e,ε];show l.length+1<=k;apply acJ;intro hk;have hm:W k<=W l.length:=by obtain⟨c,hc⟩:=acn (show k<=l.length by omega);rw[hc,Wa];have:=Wp k;have:=Wp c;have:=aaR (show(1:Int)<=W c by omega) (show 0<=W k by omega);omega
  have:=nA h1;have:=Wp l.length;have:=aaR (show(1:Int)<=d by omega) (show 0<=W l.length by omega);omega
theorem IK{k:Nat}(h:W k<=(n:Int)):k<(dg n).length:=by
 apply ack;intro hk;have h1:=qK (dP n);rw[iJ]at h1;have hm:W (dg n).length<=W k:=by obtain⟨c,hc⟩:=acn hk;rw[hc,Wa];have:=Wp (dg n).length;have:=Wp c;have:=aaR (show(1:Int)<=W c by omega) (show 0<=W (dg n).length by omega);omega
 omega
theorem Ui{q v v1 v2 vl top r low w P:Int}(hv:v=v1*(4294967296*w)+v2*w+vl)(hP:P=top*(4294967296*w)+r*w+low)(hw:0<w)(hl:low<w)(hvl:0<=vl)(hr:r<4294967296)(hv2:0<=v2)(h1:0<v1)(hq:0<=q)(hqv:q*v<=P):q<=top/v1:=by
 apply(Int.le_ediv_iff_mul_le h1).2;have a1:=abD hq hvl;have a2:=abD hq (abD hv2 (acd hw));have a3:r*w<=(4294967296-1)*w:=aaQ (by omega) (by omega);apply Int.le_of_lt_add_one;have a4:q*v1*(4294967296*w)<(top+1)*(4294967296*w):=by subst hv hP;grind
 exact Int.lt_of_mul_lt_mul_right a4 (by omega)
theorem RE{q v v1 v2 vl top r low w P g:Int}(hv:v=v1*(4294967296*w)+v2*w+vl)(hP:P=top*(4294967296*w)+r*w+low)(hw:0<w)(hl:low<w)(hvl:0<=vl)(hq:0<=q)(hqv:q*v<=P)(hg:0<=g)(hgt:(top-g*v1)*4294967296+r<g*v2)(hvp:0<=v):q<g:=by
 apply Int.lt_of_not_ge;intro h;have b1:g*v<=q*v:=aaQ h hvp;have b2:=abD hg hvl;have b3:g*v2*w<((top-g*v1)*4294967296+r+1)*w:=by subst hv hP;grind
 have:=Int.lt_of_mul_lt_mul_right b3 (by omega);omega
end Go.Nt
namespace Go.Proofs.Tryz
open Go.Eng Go.RowKit Go.Nt
variable{N n a b k j i V T P:Nat}{s t:bw}{xs rest d q out:List Int}{α:Type}{X J:Int}{rec3:List Int->List Int->Int->Int->List Int->Option TC}{ys:List (Int×TL)}
theorem FB(n:Int):δ .u32 n=n%4294967296:=by show n.emod _=_;rfl
theorem GF(n:Int):δ .u64 n=n%18446744073709551616:=rfl
theorem w8(n:Int):δ .u8 n=n%256:=rfl
theorem tz{n:Int}(h:0<=n/\n<4294967296):δ .u32 n=n:=by rw[FB];omega
theorem kC{n:Int}(h0:0<=n)(h:n<18446744073709551616):δ .u64 n=n:=by rw[GF];omega
theorem bMa(x y:Nat)(hx:x<18446744073709551616)(hy:y<18446744073709551616):bits .or .u64 (x:Int) (y:Int)=((x|||y:Nat):Int):=by show δ .u64 ((adq 64 x|||adq 64 y).toNat:Int)=_;rw[BitVec.toNat_or,abM,abM,abX,abX,ab6 (by simpa using hx),ab6 (by simpa using hy)];have:=Nat.or_lt_two_pow (n:=64) (by simpa using hx) (by simpa using hy);exact kC (by omega) (by omega)
theorem Eo{a b:Int}(ha:0<=a/\a<4294967296)(hb:0<=b/\b<4294967296):bits .or .u64 (a*4294967296) b=a*4294967296+b:=by
 obtain⟨x,rfl⟩:=abN ha.1;obtain⟨y,rfl⟩:=abN hb.1;have h:=bMa (x*4294967296) y (by omega) (by omega);have e:=Nat.two_pow_add_eq_or_of_lt (i:=32) (b:=y) (by omega) x;rw[show x*4294967296=2^32*x by omega,<-e]at h;have e2:(((2^32*x:Nat):Int))=(x:Int)*4294967296:=by omega
 rw[e2]at h;rw[h];omega
set_option maxRecDepth 8000
theorem r9(h:a<b):decide ((a:Int)<((b:Nat):Int))=true:=decide_eq_true (by omega)
theorem qo(h:¬a<b):decide ((a:Int)<((b:Nat):Int))=false:=decide_eq_false (by omega)
theorem dV{l:List α}(h:k<l.length):l[k]?=some l[k]:=List.getElem?_eq_getElem h
theorem aE{c:Bool}{a b:Option α}(h:c=true):bk c a b=a:=by rw[h];rfl
theorem aD{c:Bool}{a b:Option α}(h:c=false):bk c a b=b:=by rw[h];rfl
def jY(a b:Int):Int:=if a<b then-1 else if a=b then 0 else 1
theorem Ah(N:Nat)(a b:Int):cU N a b=some (jY a b):=by
 unfold cU lY jY;have e:∀x:Int,(x !=x)=false:=fun x=>by simp
 rw[e,e,aC,aC,dB,dB,I0,I0];by_cases h:a<b
 ·rw[if_pos (decide_eq_true h),if_pos h]
 ·rw[if_neg (by simpa using h),if_neg h];by_cases h2:a=b
  ·rw[if_neg (by simp;omega),if_pos h2]
  ·rw[if_pos (decide_eq_true (by omega)),if_neg h2]
theorem Tn(N:Nat)(a b:Int):kF N a b=some (jY a b):=Ah N a b
theorem Oh:∀(m:Nat) (xs:List Int),fj xs->xs.length<m->xs.length<=1000000000000->mS m xs=some (dg (lv xs).toNat)
 |0,_,_,h,_=>absurd h (aah _)
 |m+1,xs,hx,hm,hb=>by
  show mL (mS m) xs=_;unfold mL;rcases acy xs with rfl|⟨ys,d,rfl⟩
  ·rw[aD (by rfl),aC,dB];show some []=some (dg 0);rw[td]
  ·rw[acz]at*;have hl:(ys++[d]).length=ys.length+1:=by simp
   rw[hl]at hm hb;obtain⟨hy,hd,_⟩:=pK.1 hx;have e1:(((ys.length+1:Nat):Int)-1).toNat=ys.length:=by omega
   rw[hl,aE (decide_eq_true (by omega)),aI (by omega) (by omega),lM (x:=d) (by omega) (by rw[e1];simp),aC];show bk (d==0) _ _=_;by_cases h0:d=0
   ·subst h0;have e2:(ys++[(0:Int)]).length=ys.length+1:=by simp
    rw[aE (by rfl)];show ck .i64 ((((ys++[(0:Int)]).length:Nat):Int)-1) _=_;rw[e2,e1,aI (by omega) (by omega),aB (by omega),aB (by omega),aB (by omega)];have e3:aaE (ys.length-0) (aaV 0 (ys++[(0:Int)]))=ys:=by simp
    rw[e3,Oh m ys hy (by omega) (by omega),uH];have:lv [0]=0:=rfl;rw[this,abG,abH]
   ·rw[aD (by simpa using h0),Ou hy (by omega) hd.2]
theorem qW(hx:fj xs)(hN:xs.length<N)(hb:xs.length<=1000000000000):bG N xs=some (dg (lv xs).toNat):=Oh N xs hx hN hb
def jr(xs:List Int)(k:Nat):Int:=xs.getD k 0
theorem Db(h:fj xs)(k:Nat):0<=jr xs k/\jr xs k<4294967296:=by
 unfold jr;rw[aan];cases e:xs[k]?with
 |none=>simp
 |some d=>exact dM h e
theorem Jp(xs:List Int)(k:Nat):lv (xs.drop k)=jr xs k+4294967296*lv (xs.drop (k+1)):=by
 unfold jr;rw[aan];cases e:xs[k]?with
 |none=>
  have:=List.getElem?_eq_none_iff.1 e;rw[iI this,iI (by omega)];rfl
 |some d=>exact gM e
theorem C3(hx:fj xs)(k:Nat):fB N xs (k:Int)=some (jr xs k):=by
 unfold fB jr;by_cases h:k<xs.length
 ·have:=dM hx (dV h);rw[aE (r9 h),cQ (dV h),kC this.1 (by omega),aan,dV h];rfl
 ·rw[aD (qo h),aan,aay (by omega)];rfl
theorem K4{N:Nat}{xs ys:List Int}(hx:fj xs)(hy:fj ys)(hl:xs.length=ys.length)(hb:xs.length<=1000000000000):∀(m k:Nat),k<m->k<=xs.length->lv (xs.drop k)=lv (ys.drop k)->jH N m xs ys ((k:Int)-1)=some (jY (lv xs) (lv ys))
 |0,_,h,_,_=>absurd h (aah _)
 |m+1,k,hm,hk,he=>by
  show jI N (jH N m) xs ys _=_;unfold jI;cases k with
  |zero=>
   rw[aD (by decide)];rw[aax,aax]at he;unfold jY;rw[if_neg (by omega),if_pos he]
  |succ k=>
   have e1:(((k+1:Nat):Int)-1)=(k:Int):=by omega
   have hkx:k<xs.length:=by omega
   have hky:k<ys.length:=by omega
   have h1:=dM hx (dV hkx);have h2:=dM hy (dV hky);have d1:=gM (dV hkx);have d2:=gM (dV hky);rw[e1,aE (decide_eq_true (by omega)),cQ (dV hkx),cQ (dV hky),Tn,aC];by_cases hc:xs[k]=ys[k]
   ·have e2:jY xs[k] ys[k]=0:=by unfold jY;rw[if_neg (by omega),if_pos hc]
    rw[e2,aD (by rfl),aI (by omega) (by omega)];exact K4 hx hy hl hb m k (by omega) (by omega) (by rw[d1,d2,he,hc])
   ·have e2:(jY xs[k] ys[k]!=0)=true:=by
     unfold jY;by_cases h:xs[k]<ys[k]
     ·rw[if_pos h];rfl
     ·rw[if_neg h,if_neg hc];rfl
    rw[aE e2];congr 1;have s1:=gA xs k (by omega);have s2:=gA ys k (by omega);have t1:=nA (fV k hx);have t2:=nA (fV k hy);have u1:=qK (fV k hx);have u2:=qK (fV k hy);rw[aaq,abw (by omega)]at u1 u2;have key:∀p q:Int,p<q->W k*p+W k<=W k*q:=fun p q h=>by have:=aaR (show p+1<=q by omega) (acd (Wp k));rw[Int.mul_add,Int.mul_one]at this;exact this
    unfold jY;by_cases h:xs[k]<ys[k]
    ·have:=key _ _ (show lv (xs.drop k)<lv (ys.drop k) by omega);rw[if_pos h,if_pos (by omega)]
    ·have:=key _ _ (show lv (ys.drop k)<lv (xs.drop k) by omega);rw[if_neg h,if_neg hc,if_neg (by omega),if_neg (by omega)]
theorem wI(h1:(dg a).length<N)(h2:(dg a).length<=1000000000000)(h3:(dg b).length<=1000000000000):cT N (dg a) (dg b)=some (jY a b):=by
 unfold cT;rw[Ah,aC];by_cases hl:(dg a).length=(dg b).length
 ·have e:jY ((dg a).length:Int) ((dg b).length:Int)=0:=by unfold jY;rw[hl,if_neg (by omega),if_pos rfl]
  rw[e,aD (by rfl),aI (by omega) (by omega),K4 (dP a) (dP b) hl h2 N _ h1 (me _) (by rw[iI (me _),iI (by omega)]),iJ,iJ]
 ·have hne:∀a b:Nat,(dg a).length<(dg b).length->a<b:=fun a b h=>by
   apply ack;intro hle;have:(dg b).length<=(dg a).length:=rM (by
    have:=qK (dP a);rw[iJ]at this;omega)
   omega
  rcases Nat.lt_or_gt_of_ne hl with h|h
  ·have e:jY ((dg a).length:Int) ((dg b).length:Int)=-1:=by unfold jY;rw[if_pos (by omega)]
   have:=hne a b h;rw[e,aE (by rfl)];unfold jY;rw[if_pos (by omega)]
  ·have e:jY ((dg a).length:Int) ((dg b).length:Int)=1:=by unfold jY;rw[if_neg (by omega),if_neg (by omega)]
   have:=hne b a h;rw[e,aE (by rfl)];unfold jY;rw[if_neg (by omega),if_neg (by omega)]
theorem Br(d:Int):lv [d]=d:=by show d+4294967296*0=d;omega
theorem Gu(l:List Int)(d:Int):lv (l++[d])=lv l+W l.length*d:=by rw[uH,Br]
theorem VH{x:Int}(h:0<=x):0<=W k*x:=abD (acd (Wp k)) h
theorem yw{x:Int}(h:1<=x):W k<=W k*x:=by have:=aaR h (acd (Wp k));rwa[Int.mul_one]at this
theorem PR{N:Nat}{x y:List Int}(hx:fj x)(hy:fj y){M:Nat}(hN:M<N)(hM:M<=1000000000000)(hfin:lv x+lv y<W M)(hlx:x.length<=M)(hly:y.length<=M):∀(m k:Nat) (c:Int) (out:List Int),fj out->out.length=k->k<=M->M-k<m->(0<=c/\c<=1)->
  lv out+W k*(c+lv (x.drop k)+lv (y.drop k))=lv x+lv y->mQ N m x y c (M:Int) (k:Int) out=some (dg (lv x+lv y).toNat)
 |0,_,_,_,_,_,_,h,_,_=>absurd h (aah _)
 |m+1,k,c,out,ho,hk,hkM,hm,hc,hinv=>by
  show mI N (mQ N m) x y c _ _ out=_;unfold mI;by_cases hlt:k<M
  ·have dx:=Db hx k;have dy:=Db hy k;have ex:=Jp x k;have ey:=Jp y k;rw[aE (r9 hlt),C3 hx,C3 hy,aC,aC,aG,kC (n:=jr x k+jr y k) (by omega) (by omega),kC (n:=jr x k+jr y k+c) (by omega) (by omega),FB];rw[aB (by show(out.length+1)*4<=_;omega),aI (by omega) (by omega),aG];have e2:(2:Int)^32=4294967296:=by decide
   rw[e2];have e3:((k:Int)+1)=((k+1:Nat):Int):=by omega
   rw[e3];refine PR hx hy hN hM hfin hlx hly m (k+1) _ _ (pK.2 ⟨ho,by omega,trivial⟩) (by rw[ε,hk];rfl) (by omega) (by omega) (by omega) ?_;rw[Gu,hk,Ws];have e4:jr x k+jr y k+c=(jr x k+jr y k+c)%4294967296+4294967296*((jr x k+jr y k+c)/4294967296):=by omega
   generalize(jr x k+jr y k+c)%4294967296=d at*;generalize(jr x k+jr y k+c)/4294967296=q at*;rw[ex,ey]at hinv
   grind
  ·have hkM':k=M:=by omega
   subst hkM';rw[aD (qo hlt),aG];rw[iI (by omega),iI (by omega),abH,abH]at hinv;have h1:=nA ho;have hc0:c=0:=by
    rcases acW hc.1 with h|h
    ·have:=yw (k:=k) (show 1<=c by omega);omega
    ·exact h.symm
   rw[hc0,abG,abH]at hinv;rw[qW ho (by omega) (by omega),aC,hinv]
theorem XY(h1:(dg a).length<=100000000)(h2:(dg b).length<=100000000)(hN:100000001<N):kL N (dg a) (dg b)=some (dg (a+b)):=by
 unfold kL;obtain⟨M,hM⟩:∃M:Nat,M=max (dg a).length (dg b).length+1:=⟨_,rfl⟩;have e1:(Max.max ((dg a).length:Int) ((dg b).length:Int))+1=(M:Int):=by omega
 rw[e1,aI (by omega) (by omega)];have ha:=qK (dP a);have hb:=qK (dP b);have hW:∀k l:Nat,k<=l->W k<=W l:=fun k l h=>by obtain⟨c,rfl⟩:=acn h;rw[Wa];exact yw (by have:=Wp c;omega)
 have w1:=hW (dg a).length (M-1) (by omega);have w2:=hW (dg b).length (M-1) (by omega);have w3:W M=4294967296*W (M-1):=by have:=Ws (M-1);rwa[show M-1+1=M by omega]at this
 have w4:=Wp (M-1);have:=PR (N:=N) (dP a) (dP b) (M:=M) (by omega) (by omega) (by omega) (by omega) (by omega) N 0 0 [] trivial rfl (by omega) (by omega) (by omega) (by
  rw[W0,aax,aax];show 0+1*(0+_+_)=_;omega)
 rw[iJ,iJ]at this;have e2:((a:Int)+(b:Int)).toNat=a+b:=by omega
 rw[e2]at this;exact this
theorem Od{N:Nat}{x y:List Int}(hx:fj x)(hy:fj y)(hN:x.length<N)(hM:x.length<=1000000000000)(hge:lv y<=lv x):∀(m k:Nat) (c:Int) (out:List Int),fj out->out.length=k->k<=x.length->x.length-k<m->(0<=c/\c<=1)->
  lv out+W k*(lv (x.drop k)-lv (y.drop k)-c)=lv x-lv y->lH N m x y c (x.length:Int) (k:Int) out=some (dg (lv x-lv y).toNat)
 |0,_,_,_,_,_,_,h,_,_=>absurd h (aah _)
 |m+1,k,c,out,ho,hk,hkM,hm,hc,hinv=>by
  show lN N (lH N m) x y c _ _ out=_;unfold lN;by_cases hlt:k<x.length
  ·have dx:=dM hx (dV hlt);have dy:=Db hy k;have ex:=gM (dV hlt);have ey:=Jp y k;rw[aE (r9 hlt),cQ (dV hlt),C3 hy,aC,aG,kC (n:=x[k]) (by omega) (by omega)];generalize x[k]=xk at*;generalize jr y k=yk at*;rw[GF (xk-yk),GF ((xk-yk)%18446744073709551616-c),FB];rw[aB (by show(out.length+1)*4<=_;omega),aI (by omega) (by omega),aG];have e2:(2:Int)^63=9223372036854775808:=by decide
   rw[e2];have e3:((k:Int)+1)=((k+1:Nat):Int):=by omega
   rw[e3];refine Od hx hy hN hM hge m (k+1) _ _ (pK.2 ⟨ho,by omega,trivial⟩) (by rw[ε,hk];rfl) (by omega) (by omega) (by omega) ?_;rw[Gu,hk,Ws];have e4:xk-yk-c=((xk-yk)%18446744073709551616-c)%18446744073709551616%4294967296-4294967296*(((xk-yk)%18446744073709551616-c)%18446744073709551616/9223372036854775808):=by omega
   generalize((xk-yk)%18446744073709551616-c)%18446744073709551616%4294967296=d at*;generalize((xk-yk)%18446744073709551616-c)%18446744073709551616/9223372036854775808=q at*;rw[ex,ey]at hinv
   grind
  ·have hkM':k=x.length:=by omega
   subst hkM';rw[aD (qo hlt),aG];rw[iI (l:=x) (me _)]at hinv;have h1:=qK ho;have h2:=nA (jB x.length hy);rw[hk]at h1;have hc0:c+lv (y.drop x.length)=0:=by
    apply Int.le_antisymm _ (by omega);apply Int.not_lt.1;intro h;have:=yw (k:=x.length) (show 1<=c+lv (y.drop x.length) by omega);have e:W x.length*(0-lv (y.drop x.length)-c)=-(W x.length*(c+lv (y.drop x.length))):=by grind
    omega
   have e:W x.length*(0-lv (y.drop x.length)-c)=-(W x.length*(c+lv (y.drop x.length))):=by grind
   rw[e,hc0,abG]at hinv;rw[qW ho (by omega) (by omega),aC,show lv out=lv x-lv y by omega]
theorem F5(hab:b<=a)(h1:(dg a).length<=100000000)(hN:100000001<N):fG N (dg a) (dg b)=some (dg (a-b)):=by
 unfold fG;have:=Od (N:=N) (dP a) (dP b) (by omega) (by omega) (by rw[iJ,iJ];omega) N 0 0 [] trivial rfl (by omega) (by omega) (by omega) (by
  rw[W0,aax,aax];show 0+1*(_-_-0)=_;omega)
 rw[iJ,iJ]at this;have e2:((a:Int)-(b:Int)).toNat=a-b:=by omega
 rw[e2]at this;exact this
theorem Qg{N:Nat}{x:List Int}{b:Int}(hx:fj x)(hb:0<b/\b<4294967296)(hM:x.length<=1000000000000)(hN:x.length<N):∀(m k:Nat) (rest:Int) (out:List Int),fj out->out.length=x.length->k<=x.length->k<m->(0<=rest/\rest<b)->lv (out.take k)=0->
  lv (out.drop k)*b+rest=lv (x.drop k)->lI N m x b rest ((k:Int)-1) out=some (dg (lv x/b).toNat,lv x%b)
 |0,_,_,_,_,_,_,h,_,_,_=>absurd h (aah _)
 |m+1,k,rest,out,ho,hol,hkx,hm,hr,h0,hinv=>by
  show lL N (lI N m) x b rest _ out=_;unfold lL;cases k with
  |zero=>
   rw[aD (by decide),aG,qW ho (by omega) (by omega),aC,tz (by omega)];rw[aax,aax]at hinv;have e1:lv x/b=lv out:=by rw[<-hinv,Int.add_comm,adp,Int.add_mul_ediv_left _ _ (by omega),ac5 hr.1 hr.2,ac6]
   have e2:lv x%b=rest:=by rw[<-hinv,Int.add_comm,adp,Int.add_mul_emod_self_left,Int.emod_eq_of_lt hr.1 hr.2]
   rw[e1,e2]
  |succ k=>
   have hk:k<x.length:=by omega
   have dx:=dM hx (dV hk);have ex:=gM (dV hk);have hko:k<out.length:=by omega
   have e0:(((k+1:Nat):Int)-1)=(k:Int):=by omega
   have e32:(2:Int)^32=4294967296:=by decide
   rw[e0,aE (decide_eq_true (by omega)),cQ (dV hk),kC (n:=b) (by omega) (by omega),aB (by omega),aB (by omega),aB (by omega),aB (by omega),π,fO (dV hko),aI (by omega) (by omega),e32,kC (n:=rest*4294967296) (by omega) (by omega),kC (n:=x[k]) (by omega) (by omega),Eo (by omega) dx];generalize x[k]=d at*;have hn:0<=rest*4294967296+d:=by omega
   rw[Int.tdiv_eq_ediv_of_nonneg hn,Int.tmod_eq_emod_of_nonneg hn];have hq0:0<=(rest*4294967296+d)/b:=acS hn (by omega);have hq1:(rest*4294967296+d)/b<4294967296:=by apply Int.ediv_lt_of_lt_mul (by omega);have:=aaR (show rest+1<=b by omega) (show(0:Int)<=4294967296 by decide);omega
   have hr0:0<=(rest*4294967296+d)%b:=Int.emod_nonneg _ (by omega);have hr1:(rest*4294967296+d)%b<b:=Int.emod_lt_of_pos _ (by omega);have hqr:=Int.mul_ediv_add_emod (rest*4294967296+d) b;rw[kC (n:=(rest*4294967296+d)/b) hq0 (by omega),tz ⟨hq0,hq1⟩];have hz:out[k]?=some 0:=by
    have h1:=Bn (dV hko);rw[h0]at h1;have h2:=nA (fV k ho);have h3:=dM ho (dV hko);have h4:=VH (k:=k) h3.1;have:out[k]=0:=by
     rcases acW h3.1 with h|h
     ·have:=yw (k:=k) (show 1<=out[k] by omega);have:=Wp k;omega
     ·exact h.symm
    rw[dV hko,this]
   have hl2:∀q:Int,(out.set k q).length=out.length:=fun q=>aa5;rw[kE (hl2 _).symm];refine Qg hx hb hM hN m k _ _ (Eb ho ⟨hq0,hq1⟩) (by rw[hl2,hol]) (by omega) (by omega) ⟨hr0,hr1⟩ ?_ ?_
   ·rw[adl (me _)];have h1:=Bn hz;rw[h0,abG,abH]at h1;exact h1.symm
   ·rw[gM (d:=(rest*4294967296+d)/b) (by rw[acs hko]),ach (by omega),ex,<-hinv];generalize(rest*4294967296+d)/b=q at*;generalize(rest*4294967296+d)%b=r at*;generalize lv (out.drop (k+1))=o at*
    grind
theorem Uf{l:List Int}(h:fj l)(h0:lv l=0){d:Int}(e:l[j]?=some d):d=0:=by
 have h1:=gA l j (acq (χ.1 e).1);have h2:=gM e;have h3:=nA (fV j h);have h4:=nA (jB (j+1) h);have h5:=dM h e;rcases acW h5.1 with hh|hh
 ·have:=yw (k:=j) (show 1<=lv (l.drop j) by omega);have:=Wp j;omega
 ·exact hh.symm
theorem Rc{y:List Int}(hy:fj y){a:Int}(ha:0<=a/\a<4294967296){m:Nat}{c:Int}{d:Int}(ho:fj out)(hd:out[i+k]?=some d)(hc:0<=c/\c<4294967296)(hb:i+k<=1000000000000)
  (hcond:k<y.length\/0<c):bY N rec3 (m+1) y (i:Int) a c (k:Int) xs X J out=
   bY N rec3 m y (i:Int) a ((a*jr y k+d+c)/4294967296) ((k+1:Nat):Int) xs X J (out.set (i+k) ((a*jr y k+d+c)%4294967296)):=by
 have hdd:=dM ho hd;have hko:=(χ.1 hd).1;have dy:=Db hy k;have hay0:=abD ha.1 dy.1;have hay:a*jr y k<=4294967295*4294967295:=Int.mul_le_mul (by omega) (by omega) dy.1 (by decide);show fW N rec3 (bY N rec3 m) y _ a c _ xs X J out=_;unfold fW;have key:(bk (decide ((k:Int)<((y.length:Nat):Int))) (bf (out.length) (out) (some (y,(i:Int),a,c,(k:Int),xs,X,J,true,out))) (bf (out.length) (out) (some (y,(i:Int),a,c,(k:Int),xs,X,J,decide (c>0),out))))=some (y,(i:Int),a,c,(k:Int),xs,X,J,true,out):=by
  rw[aG,aG,I0];by_cases h:k<y.length
  ·rw[if_pos (r9 h)]
  ·rw[if_neg (by rw[qo h];decide),decide_eq_true (by omega)]
 rw[key,aC];have e1:((i:Int)+(k:Int)).toNat=i+k:=by omega
 have e32:(2:Int)^32=4294967296:=by decide
 show bk true (bj (fB N y (k:Int)) fun v21=>ck .i64 ((i:Int)+(k:Int)) (bb (0<=(i:Int)+(k:Int)) (bb ((i:Int)+(k:Int)<((out.length:Nat):Int)) (cw out ((i:Int)+(k:Int)).toNat fun x22=>ck .i64 ((i:Int)+(k:Int)) (bb (0<=(i:Int)+(k:Int)) (bb ((i:Int)+(k:Int)<((out.length:Nat):Int)) (cw out ((i:Int)+(k:Int)).toNat fun x23=>ck .i64 ((k:Int)+1) (bf (out.length) (List.set out ((i:Int)+(k:Int)).toNat (δ .u32 (δ .u64 ((δ .u64 ((δ .u64 ((δ .u64 a)*v21))+(δ .u64 x22)))+c)))) (bY N rec3 m y (i:Int) a ((δ .u64 ((δ .u64 ((δ .u64 ((δ .u64 a)*v21))+(δ .u64 x22)))+c))/(2^32)) ((k:Int)+1) xs X J (List.set out ((i:Int)+(k:Int)).toNat (δ .u32 (δ .u64 ((δ .u64 ((δ .u64 ((δ .u64 a)*v21))+(δ .u64 x22)))+c))))))))))))) _=_;rw[mU,C3 hy,aC,aI (by omega) (by omega),aB (by omega),aB (by omega),e1,fO hd,aI (by omega) (by omega),aB (by omega),aB (by omega),fO hd,aI (by omega) (by omega),kC (n:=a) (by omega) (by omega),kC (n:=a*jr y k) hay0 (by omega),kC (n:=d) (by omega) (by omega),kC (n:=a*jr y k+d) (by omega) (by omega),kC (n:=a*jr y k+d+c) (by omega) (by omega),FB,e32,kE (by rw[aa5])];rw[show((k:Int)+1)=((k+1:Nat):Int) by omega]
theorem PJ{y:List Int}{i:Int}{a:Int}{m:Nat}(hk:y.length<=k)(hJ:0<=J/\J<=1000000000000):
  bY N rec3 (m+1) y i a 0 (k:Int) xs X J out=rec3 y xs X (J+1) out:=by show fW N rec3 (bY N rec3 m) y _ a 0 _ xs X J out=_;unfold fW;rw[aD (qo (by omega)),aG,aC];show bk (decide ((0:Int)>0)) _ (ck .i64 (J+1) (bf out.length out (rec3 y xs X (J+1) out)))=_;rw[aD (by decide),aI (by omega) (by omega),aG]
theorem MK{N:Nat}{y:List Int}(hy:fj y){i:Nat}{a:Int}(ha:0<=a/\a<4294967296){xs:List Int}{X J:Int}{rec3:List Int->List Int->Int->Int->List Int->Option TC}(hJ:0<=J/\J<=1000000000000){P:Int}:∀(m k:Nat) (c:Int) (out:List Int),fj out->i+y.length<out.length->out.length<=1000000000000->k<=y.length->y.length-k+2<=m->(0<=c/\c<4294967296)->lv (out.drop (i+y.length))=0->
  lv out+W (i+k)*c=P+W i*a*lv (y.take k)->∃out',bY N rec3 m y (i:Int) a c (k:Int) xs X J out=rec3 y xs X (J+1) out'/\fj out'/\out'.length=out.length/\lv out'=P+W i*a*lv y/\lv (out'.drop (i+y.length+1))=0
 |0,_,_,_,_,_,_,_,h,_,_,_=>by omega
 |m+1,k,c,out,ho,hol,hb,hk,hm,hc,h0,hinv=>by
  by_cases hlt:k<y.length
  ·obtain⟨d,hd⟩:∃d,out[i+k]?=some d:=⟨_,dV (by omega)⟩;have hdd:=dM ho hd;have dy:=dM hy (dV hlt);have edig:jr y k=y[k]:=by unfold jr;rw[aan,dV hlt];rfl
   have hay0:=abD ha.1 dy.1;have hay:a*y[k]<=4294967295*4294967295:=Int.mul_le_mul (by omega) (by omega) dy.1 (by decide);rw[Rc hy ha ho hd hc (by omega) (.inl hlt),edig];have hset:=GW (e:=(a*y[k]+d+c)%4294967296) hd;have hty:=Bn (dV hlt);generalize y[k]=yk at*;have hdm:a*yk+d+c=(a*yk+d+c)%4294967296+4294967296*((a*yk+d+c)/4294967296):=by omega
   have b1:0<=(a*yk+d+c)/4294967296/\(a*yk+d+c)/4294967296<4294967296:=by omega
   have b2:0<=(a*yk+d+c)%4294967296/\(a*yk+d+c)%4294967296<4294967296:=by omega
   generalize(a*yk+d+c)/4294967296=q at*;generalize(a*yk+d+c)%4294967296=r at*;obtain⟨out',r1,r2,r3,r4,r5⟩:=MK (N:=N) (i:=i) hy ha (xs:=xs) (X:=X) (rec3:=rec3) hJ (P:=P) m (k+1) q (out.set (i+k) r) (Eb ho b2) (by rw[aa5];omega) (by rw[aa5];omega) (by omega) (by omega) b1 (by rw[ach (by omega)];exact h0) (by
    rw[hset,show i+(k+1)=(i+k)+1 by omega,Ws (i+k),hty,Wa i k];rw[Wa i k]at hinv
    grind)
   exact⟨out',r1,r2,by rw[r3,aa5],r4,r5⟩
  ·have hky:k=y.length:=by omega
   subst hky;rw[aaw (me _)]at hinv;have h0':lv (out.drop (i+y.length+1))=0:=by obtain⟨d,hd⟩:∃d,out[i+y.length]?=some d:=⟨_,dV (by omega)⟩;have h1:=gM hd;have h2:=dM ho hd;have h3:=nA (jB (i+y.length+1) ho);omega
   by_cases hc0:c=0
   ·subst hc0;rw[PJ (me _) hJ];rw[abG,abH]at hinv;exact⟨out,rfl,ho,rfl,hinv,h0'⟩
   ·obtain⟨d,hd⟩:∃d,out[i+y.length]?=some d:=⟨_,dV (by omega)⟩;have hd0:d=0:=by have:=Uf (jB (i+y.length) ho) h0 (j:=0) (d:=d) (by rw[abe];exact hd);exact this
    subst hd0;have edig:jr y y.length=0:=by unfold jr;rw[aan,aay (me _)];rfl
    rw[Rc hy ha ho hd hc (by omega) (.inr (by omega)),edig,abG,ac6,ac6,ac5 hc.1 hc.2,Int.emod_eq_of_lt hc.1 hc.2];cases m with
    |zero=>omega
    |succ m=>
     rw[PJ (by omega) hJ];refine⟨_,rfl,Eb ho hc,aa5,?_,?_⟩
     ·rw[GW hd,Int.sub_zero];omega
     ·rw[ach (by omega)];exact h0'
theorem NT{N:Nat}{x y:List Int}(hx:fj x)(hy:fj y)(hb:x.length+y.length<=100000000)(hN:100000004<N):∀(m i:Nat) (out:List Int),fj out->out.length=x.length+y.length+1->i<=x.length->x.length-i<m->lv out=lv (x.take i)*lv y->lv (out.drop (i+y.length))=0->fU N m y x (x.length:Int) (i:Int) out=some (dg (lv x*lv y).toNat)
 |0,_,_,_,_,_,h,_,_=>absurd h (aah _)
 |m+1,i,out,ho,hol,hi,hm,hinv,h0=>by
  show lE N (fU N m) y x _ _ out=_;unfold lE;by_cases hlt:i<x.length
  ·have dx:=dM hx (dV hlt);have ht:=Bn (dV hlt);rw[aE (r9 hlt),cQ (dV hlt),aG];obtain⟨out',r1,r2,r3,r4,r5⟩:=MK (N:=N) hy dx (i:=i) (xs:=x) (X:=(x.length:Int)) (J:=(i:Int)) (rec3:=fU N m) (by omega) (P:=lv (x.take i)*lv y) N 0 0 out ho (by omega) (by omega) (aa2 _) (by omega) (by decide) h0 (by
    rw[abP];show lv out+W (i+0)*0=_+W i*x[i]*0;rw[hinv];omega)
   show bY N (fU N m) N y (i:Int) x[i] 0 ((0:Nat):Int) x (x.length:Int) (i:Int) out=_;rw[r1,show(i:Int)+1=((i+1:Nat):Int) by omega];refine NT hx hy hb hN m (i+1) out' r2 (by omega) (by omega) (by omega) ?_ (by rw[show i+1+y.length=i+y.length+1 by omega];exact r5);rw[r4,ht];grind
  ·have:i=x.length:=by omega
   subst this;rw[aD (qo hlt),aG,qW ho (by omega) (by omega),aC,hinv,aaw (me _)]
theorem Lw(hb:0<b/\b<4294967296)(h1:(dg a).length<=100000000)(hN:100000004<N):gO N (dg a) (b:Int)=some (dg (a/b),((a%b:Nat):Int)):=by
 unfold gO;rw[aB (by omega),aB (by omega),aB (by omega),aB (by omega),aI (by omega) (by omega),kE (by rw[aaX]),π];rw[Qg (dP a) (b:=(b:Int)) (by omega) (by omega) (by omega) N (dg a).length 0 _ (FE _) (by rw[aaX]) (me _) (by omega) (by omega) (by rw[List.take_replicate,Cy]) (by rw[iI (by rw[aaX];exact me _),iI (me _)];omega)];rw[iJ];have e1:((a:Int)/(b:Int)).toNat=a/b:=by rw[<-Int.natCast_ediv,π]
 have e2:(a:Int)%(b:Int)=((a%b:Nat):Int):=(Int.natCast_emod a b).symm;rw[e1,e2]
theorem J7{x y:List Int}(hx:fj x)(hy:fj y)(hb:x.length+y.length<=100000000)(hN:100000004<N):eA N x y=some (dg (lv x*lv y).toNat):=by
 unfold eA;have e:(((x.length:Nat):Int)+((y.length:Nat):Int)+1).toNat=x.length+y.length+1:=by omega
 rw[aI (by omega) (by omega),aI (by omega) (by omega),aB (by omega),aB (by omega),aB (by omega),aB (by omega),kE (by rw[aaX]),e];have h0:lv ((aag (x.length+y.length+1) (0:Int)).drop (0+y.length))=0:=by rw[List.drop_replicate,Cy]
 exact NT hx hy hb hN N 0 _ (FE _) (by rw[aaX]) (aa2 _) (by omega) (by
  rw[Cy,abP];show(0:Int)=0*_;omega) h0
theorem bIr(hb:(dg a).length+(dg b).length<=100000000)(hN:100000004<N):eA N (dg a) (dg b)=some (dg (a*b)):=by rw[J7 (dP a) (dP b) hb hN,iJ,iJ,<-abb,π]
theorem Jq(hn:n<=31)(hb:(dg a).length<=90000000)(hN:100000004<N):cL N (dg a) (n:Int)=some (dg (a*2^n)):=by
 unfold cL;have e0:(((abQ .u32):Nat):Int)=32:=rfl;have hp:(2:Nat)^n<=2147483648:=by have:=aa3 (n:=2) (by decide) hn;exact this
 have hp0:0<(2:Nat)^n:=Nat.pow_pos (by decide);have e1:(1*(2:Int)^(n:Int).toNat)=((2^n:Nat):Int):=by rw[π,Int.one_mul,adi];rfl
 rw[aD (decide_eq_false (by omega)),aB (by omega),aB (by omega),e1,tz (by omega),J7 (dP a) (by exact⟨by omega,trivial⟩) (by show _+1<=_;omega) hN,aC,Br,iJ,<-abb,π]
theorem bOb(hn:n<=31)(hn0:0<n)(hb:(dg a).length<=90000000)(hN:100000004<N):cL N (dg a) (-(n:Int))=some (dg (a/2^n)):=by
 unfold cL;have e0:(((abQ .u32):Nat):Int)=32:=rfl;have hp:(2:Nat)^n<=2147483648:=by have:=aa3 (n:=2) (by decide) hn;exact this
 have hp0:0<(2:Nat)^n:=Nat.pow_pos (by decide);have e1:(1*(2:Int)^(-(-(n:Int))).toNat)=((2^n:Nat):Int):=by rw[Int.neg_neg,π,Int.one_mul,adi];rfl
 rw[aE (decide_eq_true (by omega)),aI (by omega) (by omega),aB (by omega),aB (by omega),e1,tz (by omega),Lw (by omega) (by omega) hN,aC]
theorem bI8(hb:(dg a).length<=90000000)(hN:100000004<N):cL N (dg a) (-((0:Nat):Int))=some (dg a):=by have:=Jq (N:=N) (a:=a) (n:=0) (by decide) hb hN;rw[Nat.pow_zero,Nat.mul_one]at this;exact this
def Ba:Nat->List UInt8->Nat
 |a,[]=>a
 |a,b::l=>Ba (256*a+b.toNat) l
def nb(s:List UInt8):Nat:=Ba 0 s
theorem IY:∀(l:List UInt8) (a:Nat),Ba a l=a*256^l.length+nb l
 |[],a=>by show a=a*256^0+0;omega
 |b::l,a=>by
  show Ba (256*a+b.toNat) l=a*256^(l.length+1)+Ba (256*0+b.toNat) l;rw[IY l,IY l (256*0+b.toNat),ac7]
  grind
theorem AN(b:UInt8)(l:List UInt8):nb (b::l)=b.toNat*256^l.length+nb l:=by show Ba (256*0+b.toNat) l=_;rw[IY];congr 2;omega
theorem EH:∀(a c:List UInt8),nb (a++c)=nb a*256^c.length+nb c
 |[],c=>by show nb c=0*_+nb c;omega
 |b::a,c=>by
  rw[ab5,AN,EH a c,AN,ε,Nat.pow_add]
  grind
theorem vF:∀(l:List UInt8),nb l<256^l.length
 |[]=>by decide
 |b::l=>by
  rw[AN,aab,ac7];have:=vF l;have hb:b.toNat<=255:=by have:=b.toNat_lt;omega
  have:=aaG (256^l.length) hb;omega
theorem IU(a:List UInt8)(b:UInt8):nb (a++[b])=256*nb a+b.toNat:=by rw[EH,AN];show nb a*256^1+(b.toNat*256^0+0)=_;omega
theorem bCk(x y:Nat)(hx:x<4294967296)(hy:y<4294967296):bits .or .u32 (x:Int) (y:Int)=((x|||y:Nat):Int):=by show δ .u32 ((adq 32 x|||adq 32 y).toNat:Int)=_;rw[BitVec.toNat_or,abM,abM,abX,abX,ab6 (by simpa using hx),ab6 (by simpa using hy)];have:=Nat.or_lt_two_pow (n:=32) (by simpa using hx) (by simpa using hy);exact tz (by omega)
theorem UE{x y:Nat}(hx:x<16777216)(hy:y<256):bits .or .u32 ((x:Int)*256) (y:Int)=((256*x+y:Nat):Int):=by
 have h:=bCk (x*256) y (by omega) (by omega);have e:=Nat.two_pow_add_eq_or_of_lt (i:=8) (b:=y) (by omega) x;rw[show x*256=2^8*x by omega,<-e]at h;have e2:(((2^8*x:Nat):Int))=(x:Int)*256:=by omega
 rw[e2]at h;rw[h]
theorem Z3(c:List UInt8)(k:Nat)(h:k<c.length):(bE c)[k]?=some ((c[k].toNat:Nat):Int):=by unfold bE;rw[List.getElem?_map,dV h];rfl
theorem Zv(c:List UInt8):(bE c).length=c.length:=by unfold bE;rw[κ]
theorem PY{rec2:bw->Int->List Int->Option TC}{s:bw}{e:Int}{x:List Int}{c:List UInt8}(hc:c.length<=4)(he:0<=e/\e<=1000000000000)(hx:x.length<=1000000000000):∀(m k:Nat),k<=c.length->c.length-k<m->
  wB rec2 m s e ((nb (c.take k):Nat):Int) (bE c) ((c.length:Nat):Int) (k:Int) x=rec2 s (e-4) (x++[((nb c:Nat):Int)])
 |0,_,_,h=>absurd h (aah _)
 |m+1,k,hk,hm=>by
  show vX rec2 (wB rec2 m) s e _ _ _ _ x=_;unfold vX;by_cases hlt:k<c.length
  ·have hb:c[k].toNat<256:=c[k].toNat_lt;have h1:=vF (c.take k);have h2:256^(c.take k).length<=256^3:=aa3 (by decide) (by rw[aaq];omega);have h3:nb (c.take k)<16777216:=aa0 h1 h2;have e8:(2:Int)^8=256:=by decide
   rw[aE (r9 hlt),cQ (Z3 c k hlt),aI (by omega) (by omega),aG,e8,tz (by omega),tz (by omega),UE h3 hb];have:=PY (rec2:=rec2) (s:=s) hc he hx m (k+1) (by omega) (by omega);rw[aca hlt,IU]at this;exact this
  ·rw[aD (qo hlt),aG,aB (by show(x.length+1)*4<=_;omega),aI (by omega) (by omega),aG,aaw (by omega)]
theorem P0{N:Nat}{s:bw}(hs:s.length<=100000000)(hN:100000004<N):∀(m:Nat) (e:Int) (x:List Int),fj x->x.length+e.toNat<=100000000->e<=s.length->e.toNat<m->lv x+W x.length*((nb (s.take e.toNat):Nat):Int)=((nb s:Nat):Int)->rD N m s e x=some (dg (nb s))
 |0,_,_,_,_,_,h,_=>absurd h (aah _)
 |m+1,e,x,hx,hb,he,hm,hinv=>by
  show wE N (rD N m) s e x=_;unfold wE;by_cases hpos:0<e
  ·obtain⟨n,rfl⟩:=abN (acd hpos);rw[π]at*;have em:(Max.max 0 ((n:Int)-4)).toNat=n-4:=by omega
   rw[aE (decide_eq_true hpos),aI (by omega) (by omega),aB (by omega),aB (by omega),aB (by omega),aB (by omega),aG,em];generalize hc:aaE (n-(n-4)) (aaV (n-4) s)=c;have hcl:c.length=n-(n-4):=by rw[<-hc,aaq,aaz];omega
   have h:=PY (rec2:=rD N m) (s:=s) (e:=(n:Int)) (x:=x) (c:=c) (by omega) (by omega) (by omega) N 0 (aa2 _) (by omega);rw[Zv];rw[abP]at h;refine h.trans ?_;have hcv:=vF c;have hc4:256^c.length<=256^4:=aa3 (by decide) (by omega);have htk:s.take n=s.take (n-4)++c:=by rw[<-hc];have:=aa8 (n-4) (s.take n);rw[List.take_take,List.drop_take,abw (by omega)]at this;exact this.symm
   have e4:((n:Int)-4).toNat=n-4:=by omega
   refine P0 hs hN m _ _ (pK.2 ⟨hx,by omega,trivial⟩) (by rw[ε,e4];show x.length+1+_<=_;omega) (by omega) (by omega) ?_;rw[e4,Gu,ε];show _+W (x.length+1)*_=_;rw[Ws,<-hinv,htk,EH];by_cases h4:4<=n
   ·rw[hcl,show n-(n-4)=4 by omega];generalize nb (s.take (n-4))=p;generalize nb c=q;have:((p*256^4+q:Nat):Int)=(p:Int)*4294967296+(q:Int):=by rw[Int.natCast_add,abb];rfl
    rw[this];grind
   ·rw[show n-4=0 by omega,abP];show lv x+W x.length*(nb c:Int)+4294967296*W x.length*((0:Nat):Int)=lv x+W x.length*((0*256^c.length+nb c:Nat):Int);rw[Nat.zero_mul,Nat.zero_add];show _+4294967296*W x.length*0=_;rw[abG,abH]
  ·have e0:e.toNat=0:=by omega
   rw[e0,abP]at hinv;have hinv:lv x+W x.length*0=((nb s:Nat):Int):=hinv;rw[abG,abH]at hinv;rw[aD (decide_eq_false (by omega)),aG,qW hx (by omega) (by omega),aC,hinv,π]
theorem pJ(hs:s.length<=100000000)(hN:100000004<N):eU N s=some (dg (nb s)):=by unfold eU;refine P0 hs hN N _ [] trivial (by show 0+_<=_;omega) (ady _) (by omega) ?_;rw[π,adb];show 0+W 0*_=_;rw[W0];omega
theorem P8(h:xs.length<=1000000000000):bV N xs=some xs:=by
 unfold bV;by_cases h0:0<xs.length
 ·rw[aE (decide_eq_true h0),aB (by omega),aG]
 ·have:xs=[]:=aas.1 (by omega);subst this;rfl
theorem YA(hj:j+n<=rest.length)(hd:d.length<=n):ye ((aaE j rest++aag n 0)++aaV (j+n) rest) j n d=aaE j rest++(d++(aag (n-d.length) 0++aaV (j+n) rest)):=by
 unfold ye;have hl:(aaE j rest).length=j:=by rw[aaq];omega
 rw[abw hd,aaw (me _),ν (aaE j rest) (aag n 0),adj hl,ν];congr 2;rw[List.drop_append,hl,aar (by omega),aaW,show j+d.length-j=d.length by omega,abq (by rw[aaX];exact hd),List.drop_replicate]
def nx(rest:List Int)(j n:Nat)(d:List Int):List Int:=aaE j rest++(d++(aag (n-d.length) 0++aaV (j+n) rest))
theorem Gn(hj:j+n<=rest.length)(hd:d.length<=n):(nx rest j n d).length=rest.length:=by unfold nx;rw[ε,ε,ε,aaq,aaX,aaz];omega
theorem Wx(hr:fj rest)(hd:fj d):fj (nx rest j n d):=
 pK.2 ⟨fV _ hr,pK.2 ⟨hd,pK.2 ⟨FE _,jB _ hr⟩⟩⟩
theorem O9(hj:j+n<=rest.length)(hd:d.length<=n):lv ((nx rest j n d).drop j)=lv d+W n*lv (rest.drop (j+n)):=by unfold nx;rw[List.drop_left' (by rw[aaq];omega),uH,uH,Cy,aaX,ac6,<-Int.mul_assoc,<-Wa,show d.length+(n-d.length)=n by omega]
theorem UG(hj:j+n<=rest.length)(hd:d.length<=n):lv (nx rest j n d)=lv rest-W j*(lv ((rest.drop j).take n)-lv d):=by
 have h1:=gA (nx rest j n d) j (by rw[Gn hj hd];omega);have h2:=gA rest j (by omega);have h3:=gA (rest.drop j) n (by rw[aaz];omega);rw[abc]at h3;rw[O9 hj hd]at h1;have h4:(nx rest j n d).take j=rest.take j:=by unfold nx;exact adj (by rw[aaq];omega)
 rw[h4]at h1;rw[h1,h2,h3]
 grind
theorem Dw{a b:Int}:decide (jY a b<0)=decide (a<b):=by
 unfold jY;split
 ·rename_i h;simp[h]
 ·rename_i h;split<;>simp[h]
theorem KJ{N V:Nat}{rest:List Int}(hr:fj rest){j n:Nat}(hj:j+(n+1)<=rest.length)(hb:rest.length<=100000000)(hN:100000004<N)(hV:0<V)(hVn:(V:Int)<W n){P:Nat}(hP:lv ((rest.drop j).take (n+1))=P){q:List Int}(hq:j<q.length){bits:Int}:∀(m k:Nat),k<4294967296->P/V<=k->k-P/V<m->
  kP N m bits (dg V) (n:Int) (j:Int) (k:Int) (j:Int) ((n+1:Nat):Int) (dg (k*V)) rest q=some (bits,dg V,(n:Int),(j:Int),nx rest j (n+1) (dg (P%V)),q.set j ((P/V:Nat):Int))
 |0,_,_,_,h=>absurd h (aah _)
 |m+1,k,hk,hge,hm=>by
  show oP N (kP N m) _ _ _ _ _ _ _ _ _ _=_;unfold oP;have hl:((rest.drop j).take (n+1)).length=n+1:=by rw[aaq,aaz];omega
  have ho:fj ((rest.drop j).take (n+1)):=fV _ (jB _ hr);have ht:bG N ((rest.drop j).take (n+1))=some (dg P):=by rw[qW ho (by omega) (by omega),hP,π]
  have hPl:(dg P).length<=n+1:=rM (by have:=qK ho;rw[hl,hP]at this;exact this);have hkl:(dg (k*V)).length<=n+1:=rM (by
   rw[abb,Ws];have w:=Wp n;have a1:(k:Int)*(V:Int)<=k*W n:=aaR (by omega) (by omega);have a2:(k:Int)*W n<=4294967295*W n:=aaQ (by omega) (by omega);omega)
  have hdm:=adk P V;have hml:=acg P hV;rw[π,π,aB (by omega),P8 (by omega),aC,aG,ht,aC,wI (by omega) (by omega) (by omega),aC,Dw];by_cases hlt:P<k*V
  ·have hk1:1<=k:=by
    rcases aba k with h|h
    ·subst h;omega
    ·exact h
   have hlt':P/V<k:=adh (by rw[acM];exact hlt);have hVk:V<=k*V:=Nat.le_mul_of_pos_left V hk1;rw[aE (r9 hlt),F5 hVk (by omega) (by omega),aC,aG,aG,kC (by omega) (by omega)];have e1:((k:Int)-1)=((k-1:Nat):Int):=by omega
   have e2:k*V-V=(k-1)*V:=by rw[Nat.sub_mul,Nat.one_mul]
   rw[e1,e2];exact KJ hr hj hb hN hV hVn hP hq m (k-1) (by omega) (by omega) (by omega)
  ·have hk':k=P/V:=by have:=(Nat.le_div_iff_mul_le hV).2 (acJ hlt);omega
   have hd:(dg (P-k*V)).length<=n+1:=by
    apply rM;have:((P-k*V:Nat):Int)<=P:=by omega
    have:=qK ho;rw[hl,hP]at this;omega
   rw[aD (qo hlt),aB (by omega),aC,aG,ht,aC,F5 (acJ hlt) (by omega) (by omega),aC,aB (by omega),aB (by rw[ε,ε,aaq,aaX,aaz];omega),aB (by omega),aB (by omega),fO (dV hq),tz (by omega)];rw[YA hj hd];have hn:=Gn hj hd;unfold nx at hn;rw[kE hn.symm,kE (by rw[aa5])];have e:P-k*V=P%V:=by rw[hk',acM];omega
   rw[e,hk'];rfl
structure Dg (rest q rest' q':List Int) (j V P:Nat):Prop where
 ok:fj rest'
 len:rest'.length=rest.length
 val:lv rest'=lv rest-W j*((P/V*V:Nat):Int)
 low:lv (rest'.drop j)=((P%V:Nat):Int)
 qok:fj q'
 G4:q'.length=q.length
 Gw:lv q'=lv q+W j*((P/V:Nat):Int)
 qz:∀i,i<j->q'[i]?=q[i]?
theorem Vq(hr:fj rest)(hj:j+(n+1)<=rest.length)(hb:rest.length<=100000000)(hN:8589934592<N)(hV:0<V)(hVn:(V:Int)<W n)(hP:lv ((rest.drop j).take (n+1))=P)(hP0:lv (rest.drop (j+(n+1)))=0)(hhi:P<4294967296*V)(hqo:fj q)(hq0:∀d,q[j]?=some d->d=0)(hq:j<q.length){bt:Int}(hk:k<4294967296)(hge:P/V<=k):
  ∃rest' q',kP N N bt (dg V) (n:Int) (j:Int) (k:Int) (j:Int) ((n+1:Nat):Int) (dg (k*V)) rest q=some (bt,dg V,(n:Int),(j:Int),rest',q')/\Dg rest q rest' q' j V P:=by
 have hl:((rest.drop j).take (n+1)).length=n+1:=by rw[aaq,aaz];omega
 have hg:P/V<4294967296:=adh (by rw[acM];exact hhi);have hpv:(0:Int)<=(P:Int)/(V:Int):=acS (by omega) (by omega);have hdm:=adk P V;have hml:=acg P hV;have hd:(dg (P%V)).length<=n+1:=rM (by
  have w:=Wp n;rw[Ws];omega)
 refine⟨_,_,KJ hr hj hb (by omega) hV hVn hP hq N k hk hge (by omega),⟨Wx hr (dP _),Gn hj hd,?_,?_,Eb hqo (by omega),aa5 ..,?_,fun i hi=>ab0 (by omega)⟩⟩
 ·rw[UG hj hd,hP,iJ];congr 2;rw[acM (P/V)];omega
 ·rw[O9 hj hd,hP0,iJ,abG,abH]
 ·rw[GW (dV hq),hq0 _ (dV hq),Int.sub_zero]
theorem Pm{N V:Nat}{rest:List Int}(hr:fj rest){j n:Nat}(hn:2<=n)(hj:j+(n+1)<=rest.length)(hb:rest.length<=80000000)(hN:8589934592<N)(hV:0<V)(hVn:(V:Int)<W n)(hVl:(dg V).length=n){P:Nat}(hP:lv ((rest.drop j).take (n+1))=P)(hP0:lv (rest.drop (j+(n+1)))=0)(hhi:P<4294967296*V){q:List Int}(hqo:fj q)(hq0:∀d,q[j]?=some d->d=0)
  {v1 v2 vl r3 top low w:Int} (hvd:(V:Int)=v1*(4294967296*w)+v2*w+vl) (hPd:(P:Int)=top*(4294967296*w)+r3*w+low) (hw:0<w) (hl:low<w) (hvl:0<=vl)
  (gv1:(dg V)[n-1]?=some v1) (gv2:(dg V)[n-2]?=some v2) (gr3:rest[j+n-2]?=some r3) (hv1:2147483648<=v1) (htop:0<=top/\top<18446744073709551616) (hq:2147483648<=top->j<q.length) {bt:Int}:∀(m k:Nat) (l:Int),l=top-k*v1->0<=l->k<4294967296->P/V<=k->k<m->
  ∃rest' q',oR N m bt (dg V) (n:Int) (j:Int) (k:Int) l rest q=some (bt,dg V,(n:Int),(j:Int),rest',q')/\Dg rest q rest' q' j V P
 |0,_,_,_,_,_,_,h=>absurd h (aah _)
 |m+1,k,l,hle,hl0,hk,hge,hm=>by
  show∃rest' q',oW N (oR N m) _ _ _ _ _ _ _ _=_/\_;unfold oW;have dv1:=dM (dP V) gv1;have dv2:=dM (dP V) gv2;have dr3:=dM hr gr3;have hjr:j+n-2<rest.length:=by omega
  have e1:((n:Int)-2)=((n-2:Nat):Int):=by omega
  have e2:((n:Int)-1)=((n-1:Nat):Int):=by omega
  have e3:((j:Int)+(n:Int)-2)=((j+n-2:Nat):Int):=by omega
  have e32:(2:Int)^32=4294967296:=by decide
  have hkv2:0<=(k:Int)*v2/\(k:Int)*v2<=4294967295*4294967295:=⟨abD (by omega) dv2.1,Int.le_trans (aaQ (show(k:Int)<=4294967295 by omega) dv2.1) (aaR (by omega) (by omega))⟩;have hpv:(0:Int)<=(P:Int)/(V:Int):=acS (by omega) (by omega);have hqv:((P/V:Nat):Int)*(V:Int)<=P:=by have:=Nat.div_mul_le_self P V;rw[<-abb];omega
  by_cases hc:l<4294967296/\l*4294967296+r3<(k:Int)*v2
  ·
   have hk1:1<=k:=by
    rcases aba k with h|h
    ·subst h;have:=hc.2;omega
    ·exact h
   have hless:((P/V:Nat):Int)<k:=by refine RE hvd hPd hw hl hvl (by omega) hqv (by omega) ?_ (by omega);rw[<-hle];exact hc.2
   have hkv1:((k-1:Nat):Int)*v1=k*v1-v1:=by rw[show((k-1:Nat):Int)=(k:Int)-1 by omega];grind
   rw[aE (decide_eq_true hc.1),aI (by omega) (by omega),e1,cQ gv2,aI (by omega) (by omega),aI (by omega) (by omega),e3,π,aB (by omega),aB (by omega),fO gr3,aG,aG,aC];dsimp only;rw[kC (n:=v2) (by omega) (by omega),kC (n:=(k:Int)*v2) (by omega) (by omega),e32,kC (n:=l*4294967296) (by omega) (by omega),kC (n:=r3) (by omega) (by omega),Eo (by omega) dr3,aE (decide_eq_true hc.2),aI (by omega) (by omega),e2,cQ gv1,aG,aG,kC (n:=v1) (by omega) (by omega),kC (n:=l+v1) (by omega) (by omega),kC (by omega) (by omega)];rw[show((k:Int)-1)=((k-1:Nat):Int) by omega];exact Pm hr hn hj hb hN hV hVn hVl hP hP0 hhi hqo hq0 hvd hPd hw hl hvl gv1 gv2 gr3 hv1 htop hq m (k-1) (l+v1) (by omega) (by omega) (by omega) (by omega) (by omega)
  ·
   have hcond:(bk (decide (l<4294967296)) (ck .i64 (((n:Int)-2)) (bB (dg V) (((n:Int)-2)) fun x35=>ck .i64 (((j:Int)+(n:Int))) (ck .i64 ((((j:Int)+(n:Int))-2)) (bb ((0<=(((j:Int)+(n:Int))-2))) (bb (((((j:Int)+(n:Int))-2)<((rest.length:Nat):Int))) (cw (rest) ((((j:Int)+(n:Int))-2).toNat) fun x36=>bf (rest.length) (rest) (bf (q.length) (q) (some (bt,dg V,(n:Int),(j:Int),(k:Int),l,decide ((δ .u64 ((k:Int)*(δ .u64 x35)))>(bits .or .u64 (δ .u64 (l*(2^32))) (δ .u64 x36))),rest,q))))))))) (bf (rest.length) (rest) (bf (q.length) (q) (some (bt,dg V,(n:Int),(j:Int),(k:Int),l,false,rest,q)))))=some (bt,dg V,(n:Int),(j:Int),(k:Int),l,false,rest,q):=by
    by_cases hl2:l<4294967296
    ·have hc2:¬l*4294967296+r3<(k:Int)*v2:=fun h=>hc ⟨hl2,h⟩;rw[aE (decide_eq_true hl2),aI (by omega) (by omega),e1,cQ gv2,aI (by omega) (by omega),aI (by omega) (by omega),e3,π,aB (by omega),aB (by omega),fO gr3,aG,aG];rw[kC (n:=v2) (by omega) (by omega),kC (n:=(k:Int)*v2) (by omega) (by omega),e32,kC (n:=l*4294967296) (by omega) (by omega),kC (n:=r3) (by omega) (by omega),Eo (by omega) dr3,decide_eq_false hc2]
    ·rw[aD (decide_eq_false hl2),aG,aG]
   rw[hcond,aC];dsimp only;rw[aD rfl];by_cases hk0:k=0
   ·subst hk0;have hg0:P/V=0:=by omega
    have hm0:P%V=P:=by have:=adk P V;rw[hg0]at this;omega
    rw[aE (by decide),aG,aG];refine⟨rest,q,rfl,⟨hr,rfl,?_,?_,hqo,rfl,?_,fun _ _=>rfl⟩⟩
    ·rw[hg0];show _=_-W j*((0*V:Nat):Int);rw[Nat.zero_mul];show _=_-W j*0;omega
    ·have:=gA (rest.drop j) (n+1) (by rw[aaz];omega);rw[abc,hP0,hP]at this;rw[this,hm0];omega
    ·rw[hg0];show _=_+W j*0;omega
   ·have hkpos:v1<=(k:Int)*v1:=by have:=aaQ (show(1:Int)<=k by omega) dv1.1;omega
    have e5:((j:Int)+(n:Int)+1)=((j+(n+1):Nat):Int):=by omega
    rw[aD (by simp;omega),aI (by omega) (by omega),aI (by omega) (by omega),e5,π,π,aB (by omega),aB (by omega),aB (by omega),aB (by omega),tz (by omega)];rw[J7 (dP V) (show fj [(k:Int)]from⟨by omega,trivial⟩) (by rw[hVl];show n+1<=_;omega) (by omega),aC,aG,aG,iJ,Br,<-abb,π,acM V k,show j+(n+1)-j=n+1 by omega];exact Vq hr hj (by omega) hN hV hVn hP hP0 hhi hqo hq0 (hq (by omega)) hk hge
theorem Ox(h:a<=b):W a<=W b:=by obtain⟨c,rfl⟩:=acn h;rw[Wa];have h1:=Wp a;have h2:=Wp c;have:=aaR (show(1:Int)<=W c by omega) (show 0<=W a by omega);omega
theorem Rq{N V L n R Q bt X:Nat}(hbt:bt<=31)(hV:0<V)(hn:2<=n)(hVn:(V:Int)<W n)(hVl:(dg V).length=n)(hvh:2147483648*W (n-1)<=V)(hN:8589934592<N)(hX:(X:Int)<W L*2147483648)(hR:R<=80000000)(hQ:L+1<=Q+n)(hQb:Q<=80000000):∀(m k:Nat) (rest q:List Int),k<m->fj rest->rest.length=R->fj q->q.length=Q->k+n<=R->lv (rest.drop k)<V->(∀i,i<k->∀d,q[i]?=some d->d=0)->lv q*V+lv rest=X->
  pB N m (bt:Int) (dg V) (n:Int) ((k:Int)-1) rest q=some (dg (X/V),dg (X%V/2^bt))
 |0,_,_,_,h,_,_,_,_,_,_,_,_=>absurd h (aah _)
 |m+1,k,rest,q,hm,hr,hrl,hqo,hql,hkn,hlow,hqz,hinv=>by
  show oY N (pB N m) _ _ _ _ _ _=_;unfold oY;have nr:=nA hr;have nq:=nA hqo;cases k with
  |zero=>
   rw[aax]at hlow;have eX:(X:Int)=V*lv q+lv rest:=by rw[<-hinv,adp]
   have e1:(X:Int)/V=lv q:=by rw[eX,Int.add_comm,Int.add_mul_ediv_left _ _ (by omega),ac5 nr hlow,ac6]
   have e2:(X:Int)%V=lv rest:=by rw[eX,Int.add_comm,Int.add_mul_emod_self_left,Int.emod_eq_of_lt nr hlow]
   have e3:(lv q).toNat=X/V:=by rw[<-e1,<-Int.natCast_ediv,π]
   have e4:(lv rest).toNat=X%V:=by rw[<-e2,<-Int.natCast_emod,π]
   have hml:=acg X hV;have hsl:(dg (X%V)).length<=n:=rM (by omega);rw[aD (by decide),aG,qW hqo (by omega) (by omega),aC,aG,qW hr (by omega) (by omega),aC,aI (by omega) (by omega),e3,e4];rcases aba bt with h|h
   ·subst h;rw[bI8 (by omega) (by omega),aC,Nat.pow_zero,Nat.div_one]
   ·rw[bOb hbt h (by omega) (by omega),aC]
  |succ k=>
   have g1:rest[k+n]?=some rest[k+n]:=dV (by omega);have g2:rest[k+n-1]?=some (rest[k+n-1]'(by omega)):=dV (by omega);have g3:rest[k+n-2]?=some (rest[k+n-2]'(by omega)):=dV (by omega);have g4:rest[k]?=some (rest[k]'(by omega)):=dV (by omega);have gv1:(dg V)[n-1]?=some ((dg V)[n-1]'(by omega)):=dV (by omega);have gv2:(dg V)[n-2]?=some ((dg V)[n-2]'(by omega)):=dV (by omega);generalize rest[k+n]=r1 at g1;generalize rest[k+n-1]'(by omega)=r2 at g2;generalize rest[k+n-2]'(by omega)=r3 at g3;generalize rest[k]'(by omega)=r0 at g4;generalize(dg V)[n-1]'(by omega)=v1 at gv1;generalize(dg V)[n-2]'(by omega)=v2 at gv2;have d1:=dM hr g1;have d2:=dM hr g2;have d3:=dM hr g3;have d0:=dM hr g4;have dv1:=dM (dP V) gv1;have dv2:=dM (dP V) gv2;have s1:=gA (rest.drop (k+1)) n (by rw[aaz];omega);rw[abc]at s1;have hz0:=nA (jB (k+1+n) hr);have hz1:=nA (fV n (jB (k+1) hr));have hz:lv (rest.drop (k+1+n))=0:=by apply Int.le_antisymm _ hz0;apply Int.not_lt.1;intro h;have:=yw (k:=n) (show 1<=lv (rest.drop (k+1+n)) by omega);omega
   have hP0:lv (rest.drop (k+(n+1)))=0:=by rw[show k+(n+1)=k+1+n by omega];exact hz
   have s2:=gA (rest.drop k) (n+1) (by rw[aaz];omega);rw[abc,hP0,abG,abH]at s2;have s3:=gM g4;have nP:=nA (jB k hr);obtain⟨P,hPe⟩:=abN nP;have hP:lv ((rest.drop k).take (n+1))=P:=by rw[<-s2,hPe]
   have hhi:P<4294967296*V:=by
    have:(P:Int)<4294967296*V:=by omega
    omega
   have s4:=gA (rest.drop k) (n-2) (by rw[aaz];omega);rw[abc,show k+(n-2)=k+n-2 by omega,gM g3,show k+n-2+1=k+n-1 by omega,gM g2,show k+n-1+1=k+n by omega,gM g1,show k+n+1=k+1+n by omega,hz,hPe]at s4;have l4:=qK (fV (n-2) (jB k hr));have l4':=nA (fV (n-2) (jB k hr));rw[aaq,aaz,abw (by omega)]at l4;generalize lv ((rest.drop k).take (n-2))=low at s4 l4 l4';have s5:=gA (dg V) (n-2) (by omega);rw[gM gv2,show n-2+1=n-1 by omega,gM gv1,iI (by omega),iJ]at s5;have l5:=qK (fV (n-2) (dP V));have l5':=nA (fV (n-2) (dP V));rw[aaq,abw (by omega)]at l5;generalize lv ((dg V).take (n-2))=vl at s5 l5 l5';have hw1:W (n-1)=4294967296*W (n-2):=by rw[<-Ws,show n-2+1=n-1 by omega]
   have hw:=Wp (n-2);have hvh':=hvh;rw[hw1]at hvh';have hvd:(V:Int)=v1*(4294967296*W (n-2))+v2*W (n-2)+vl:=by grind
   have hPd:(P:Int)=(r1*4294967296+r2)*(4294967296*W (n-2))+r3*W (n-2)+low:=by grind
   have hv1:2147483648<=v1:=by apply Int.not_lt.1;intro h;have a1:v1*(4294967296*W (n-2))<=2147483647*(4294967296*W (n-2)):=aaQ (by omega) (by omega);have a2:v2*W (n-2)<=4294967295*W (n-2):=aaQ (by omega) (by omega);omega
   generalize htp:r1*4294967296+r2=top at hPd;have htop:0<=top/\top<18446744073709551616:=by omega
   have hq:2147483648<=top->k<q.length:=by
    intro h;apply ack;intro hQk;have b1:2147483648*(4294967296*W (n-2))<=top*(4294967296*W (n-2)):=aaQ h (by omega);have b2:0<=r3*W (n-2):=abD d3.1 (by omega);have b3:2147483648*W (n-1)<=P:=by rw[hw1];omega
    have s6:=gA rest k (by omega);rw[hPe]at s6;have b4:=nA (fV k hr);have b5:W k*(2147483648*W (n-1))<=W k*P:=aaR b3 (acd (Wp k));have b6:0<=lv q*(V:Int):=abD nq (by omega);have b7:W k*(2147483648*W (n-1))=2147483648*W (k+(n-1)):=by rw[Wa];grind
    have b8:=Ox (show L<=k+(n-1) by omega);rw[b7]at b5;omega
   have hgd:top/v1<18446744073709551616:=Int.lt_of_le_of_lt (Int.ediv_le_self v1 htop.1) htop.2;have hg0:0<=top/v1:=acS htop.1 dv1.1;have hgm:top/v1*v1<=top:=Int.ediv_mul_le top (by omega);have hpv:(0:Int)<=(P:Int)/(V:Int):=acS (by omega) (by omega);have hqv:((P/V:Nat):Int)*(V:Int)<=P:=by have:=Nat.div_mul_le_self P V;rw[<-abb];omega
   have hkg:=Ui hvd hPd hw l4 l5' d3.2 dv2.1 (show 0<v1 by omega) (show(0:Int)<=((P/V:Nat):Int) by omega) hqv;have hg:P/V<4294967296:=adh (by rw[acM];exact hhi);obtain⟨g,hge⟩:=abN (show 0<=Min.min (top/v1) 4294967295 by omega);have hgv:(g:Int)*v1<=top:=by
    have:(g:Int)<=top/v1:=by omega
    have:=aaQ this dv1.1;omega
   have hgv0:0<=(g:Int)*v1:=abD (by omega) dv1.1;obtain⟨rest',q',he,hD⟩:=Pm (q:=q) (bt:=(bt:Int)) hr hn (show k+(n+1)<=rest.length by omega) (by omega) hN hV hVn hVl hP hP0 hhi hqo (fun d h=>hqz k (Nat.lt_succ_self k) d h) hvd hPd hw l4 l5' gv1 gv2 g3 hv1 htop hq N g (top-g*v1) rfl (by omega) (by omega) (by omega) (by omega);have e0:(((k+1:Nat):Int)-1)=(k:Int):=by omega
   have e4:(k:Int)+(n:Int)=((k+n:Nat):Int):=by omega
   have e5:((k+n:Nat):Int)-1=((k+n-1:Nat):Int):=by omega
   have e6:(n:Int)-1=((n-1:Nat):Int):=by omega
   have e32:(2:Int)^32=4294967296:=by decide
   rw[e0,aE (decide_eq_true (by omega)),e4,aI (by omega) (by omega),aB (by omega),aB (by omega),π,fO g1,aI (by omega) (by omega),e5,aI (by omega) (by omega),aB (by omega),aB (by omega),π,fO g2,e6,aI (by omega) (by omega),cQ gv1,kC (n:=v1) (by omega) (by omega),aB (by omega),aI (by omega) (by omega),cQ gv1,aG,aG];rw[kC (n:=v1) (by omega) (by omega),kC (n:=r1) (by omega) (by omega),kC (n:=r2) (by omega) (by omega),e32,kC (n:=r1*4294967296) (by omega) (by omega),Eo d1 d2,htp,Int.tdiv_eq_ediv_of_nonneg htop.1,kC hg0 hgd,hge,kC hgv0 (by omega),kC (n:=top-g*v1) (by omega) (by omega),he,aC];dsimp only;rw[aI (by omega) (by omega),aG,aG];refine Rq hbt hV hn hVn hVl hvh hN hX hR hQ hQb m k rest' q' (by omega) hD.ok (by rw[hD.len,hrl]) hD.qok (by rw[hD.G4,hql]) (by omega) ?_ (fun i hi d h=>hqz i (by omega) d (by rw[<-hD.qz i hi];exact h)) ?_
   ·rw[hD.low];have:=acg P hV;omega
   ·rw[hD.Gw,hD.val,abb]
    grind
theorem bSg{t:Nat}(h:t<=31):2^t<=2147483648/\0<2^t:=⟨aa3 (n:=2) (by decide) h,Nat.pow_pos (by decide)⟩
theorem Rs{N a b:Nat}(ha:(dg a).length<=70000000)(hab:b<=a)(hn:2<=(dg b).length)(hN:8589934592<N){y:Nat}(hy:(dg b)[(dg b).length-1]?=some (y:Int))(hy0:0<y):∀(m t:Nat),t<=31->y*2^t<4294967296->31-t<m->
  oO N m (dg a) (dg b) (t:Int)=some (dg (a/b),dg (a%b))
 |0,_,_,_,h=>absurd h (aah _)
 |m+1,t,ht,hyt,hm=>by
  show oT N (oO N m) _ _ _=_;unfold oT;obtain⟨hp,hp0⟩:=bSg ht;have hab':(b:Int)<=a:=by omega
  generalize hnn:(dg b).length=n at*;have hb0:b≠0:=by intro h;subst h;rw[td]at hnn;have:(0:Nat)=n:=hnn;omega
  have dy:=dM (dP b) hy;have s:=gA (dg b) (n-1) (by omega);rw[gM hy,iI (by omega),iJ,abG,abH]at s;have l1:=qK (fV (n-1) (dP b));have l2:=nA (fV (n-1) (dP b));rw[aaq,abw (by omega)]at l1;have w:=Wp (n-1);have hWn:W n=4294967296*W (n-1):=by rw[<-Ws,show n-1+1=n by omega]
  have hbl:W (n-1)<=b:=by have:=yw (k:=n-1) (show 1<=(y:Int) by omega);omega
  have hla:n<=(dg a).length:=by have:n-1<(dg a).length:=IK (by omega);omega
  have hlt:(a:Int)<W (dg a).length:=by have:=qK (dP a);rwa[iJ]at this
  have e1:((n:Int)-1)=((n-1:Nat):Int):=by omega
  have ep:(y:Int)*(2:Int)^t=((y*2^t:Nat):Int):=by rw[abb,adi];rfl
  have e0:(((abQ .u32):Nat):Int)=32:=rfl;rw[aI (by omega) (by omega),e1,cQ hy,aB (by omega),aB (by omega),π,ep,tz (by omega)];by_cases hc:y*2^t<2147483648
  ·have ht30:t<=30:=by
    apply Nat.le_of_lt_succ;apply ack;intro h;have:t=31:=by omega
    subst this;have:=aaG (2^31) hy0;omega
   rw[aE (decide_eq_true (by omega)),aI (by omega) (by omega)];have:=Rs (t:=t+1) ha hab (by rw[hnn];exact hn) hN (by rw[hnn];exact hy) hy0 m (by omega) (by rw[ac7,<-Nat.mul_assoc];omega) (by omega);exact this
  ·
   have hV0:0<b*2^t:=Nat.mul_pos (by omega) hp0;have hVc:((b*2^t:Nat):Int)=(b:Int)*((2^t:Nat):Int):=abb _ _;have hXc:((a*2^t:Nat):Int)=(a:Int)*((2^t:Nat):Int):=abb _ _;have hvh:2147483648*W (n-1)<=((b*2^t:Nat):Int):=by
    rw[hVc,s,Int.add_mul];have a1:0<=lv ((dg b).take (n-1))*((2^t:Nat):Int):=abD l2 (by omega);have a2:W (n-1)*(y:Int)*((2^t:Nat):Int)=((y*2^t:Nat):Int)*W (n-1):=by rw[abb];grind
    have a3:2147483648*W (n-1)<=((y*2^t:Nat):Int)*W (n-1):=aaQ (by omega) (by omega);omega
   have hy1:(y+1)*2^t<=4294967296:=by
    have h1:2^(32-t)*2^t=4294967296:=by rw[<-Nat.pow_add,show 32-t+t=32 by omega]
    have h2:y<2^(32-t):=Nat.lt_of_mul_lt_mul_right (a:=2^t) (by rw[h1];exact hyt);have h3:=aaG (2^t) h2;rw[h1]at h3;exact h3
   have hVn:((b*2^t:Nat):Int)<W n:=by
    have b1:(b:Int)<W (n-1)*((y+1:Nat):Int):=by rw[Int.natCast_add,Int.mul_add];show _<_+W (n-1)*1;omega
    have b2:(b:Int)*((2^t:Nat):Int)<W (n-1)*((y+1:Nat):Int)*((2^t:Nat):Int):=Int.mul_lt_mul_of_pos_right b1 (by omega);have b3:W (n-1)*((y+1:Nat):Int)*((2^t:Nat):Int)=(((y+1)*2^t:Nat):Int)*W (n-1):=by rw[abb];grind
    have b4:(((y+1)*2^t:Nat):Int)*W (n-1)<=4294967296*W (n-1):=aaQ (by omega) (by omega);omega
   have hVl:(dg (b*2^t)).length=n:=by have c1:(dg (b*2^t)).length<=n:=rM hVn;have c2:n-1<(dg (b*2^t)).length:=IK (by omega);omega
   have hX:((a*2^t:Nat):Int)<W (dg a).length*2147483648:=by rw[hXc];have c1:(a:Int)*((2^t:Nat):Int)<W (dg a).length*((2^t:Nat):Int):=Int.mul_lt_mul_of_pos_right hlt (by omega);have c2:W (dg a).length*((2^t:Nat):Int)<=W (dg a).length*2147483648:=aaR (by omega) (acd (Wp _));omega
   have hXl:(dg (a*2^t)).length<=(dg a).length+1:=rM (by
    rw[Ws];have:=Wp (dg a).length;omega)
   have hXn:n<=(dg (a*2^t)).length:=by
    have:n-1<(dg (a*2^t)).length:=IK (by
     have:b*2^t<=a*2^t:=aaG _ hab;omega)
    omega
   generalize hR:(dg (a*2^t)).length=r at*;rw[aD (decide_eq_false (by omega)),Jq ht (by omega) (by omega),aC,Jq ht (by omega) (by omega),aC,P8 (by omega),aC,aG,aB (by rw[hR];show(r+2)*4<=_;omega),hVl];have eQ:((((dg a).length:Nat):Int)-(n:Int)+2).toNat=(dg a).length-n+2:=by omega
   have el:(((dg (a*2^t)++[0,0]).length:Nat):Int)=(r:Int)+2:=by rw[ε,hR];rfl
   rw[el,eQ,aI (by omega) (by omega),aI (by omega) (by omega),aB (by omega),aB (by omega),aB (by omega),aB (by omega),aI (by omega) (by omega),aI (by omega) (by omega),aG,kE (by rw[aaX])];have ek:(r:Int)+2-(n:Int)-1=((r+2-n:Nat):Int)-1:=by omega
   rw[ek];have hz:lv ([0,0]:List Int)=0:=rfl;have:=Rq (R:=r+2) (Q:=(dg a).length-n+2) (bt:=t) ht hV0 hn hVn hVl hvh hN hX (by omega) (by omega) (by omega) N (r+2-n) (dg (a*2^t)++[0,0]) (aag ((dg a).length-n+2) 0) (by omega) (pK.2 ⟨dP _,by decide,by decide,trivial⟩) (by rw[ε,hR];rfl) (FE _) (aaX ..) (by omega) (by
    rw[abq (by omega),uH,hz,abG,abH];have d1:=qK (jB (r+2-n) (dP (a*2^t)));rw[aaz,hR]at d1;have d2:=Ox (show r-(r+2-n)<=n-1 by omega);omega) (fun i _ d h=>by
    have:=aat h;exact(List.mem_replicate.1 this).2) (by rw[Cy,Int.zero_mul,ac6,uH,hz,iJ,abG,abH])
   rw[this,Nat.mul_div_mul_right _ _ hp0,Nat.mul_mod_mul_right,Nat.mul_div_cancel _ hp0]
theorem bSx(hb:0<b)(ha:(dg a).length<=70000000)(hbl:(dg b).length<=70000000)(hN:8589934592<N):nX N (dg a) (dg b)=some (dg (a/b),dg (a%b)):=by
 unfold nX;rw[wI (by omega) (by omega) (by omega),aC,Dw];by_cases h:a<b
 ·rw[aE (r9 h),Nat.div_eq_of_lt h,ab6 h,td]
 ·rw[aD (qo h)];obtain⟨l,d,hd,hlo,hd0,hd1⟩:=Nh (n:=b) (by omega);by_cases h1:(dg b).length=1
  ·have hl:l=[]:=by rw[hd,ε]at h1;exact aas.1 (by simpa using h1)
   subst hl;have hbd:(b:Int)=d:=by have:=iJ b;rw[hd]at this;rw[<-this];exact Br d
   have hq:(((((dg b).length:Nat):Int)==1)=true):=by rw[h1];rfl
   have e:(0:Int)=((0:Nat):Int):=rfl;rw[aE hq];have hg:(dg b)[0]?=some (b:Int):=by rw[hd,hbd];rfl
   rw[e,cQ hg,Lw (by omega) (by omega) (by omega),aC];have hml:=acg a hb;rw[qW (show fj [((a%b:Nat):Int)]from⟨by omega,trivial⟩) (by show 1<N;omega) (by show 1<=_;omega),aC,Br,π]
  ·have hn:2<=(dg b).length:=by
    have:(dg b).length≠0:=by rw[hd,ε];simp
    omega
   have hq:(((((dg b).length:Nat):Int)==1)=false):=by apply beq_false_of_ne;omega
   rw[aD hq];obtain⟨y,rfl⟩:=abN (acd hd0);have hy:(dg b)[(dg b).length-1]?=some (y:Int):=by rw[hd,ε];simp
   exact Rs ha (by omega) hn hN hy (by omega) N 0 (by omega) (by rw[Nat.pow_zero];omega) (by omega)
theorem FG(h:a<=b):(dg a).length<=(dg b).length:=rM (by
 have:=qK (dP b);rw[iJ]at this;omega)
theorem Lq(hb:b≠0)(ha:(dg a).length<=70000000)(hbl:(dg b).length<=70000000)(hN:8589934592<N):cx (N+1) (dg a) (dg b)=bj (cx N (dg b) (dg (a%b))) fun v=>some v:=by
 show pP N (fun _=>cx N) (dg a) (dg b)=_;unfold pP;have h:((((dg b).length:Nat):Int)==0)=false:=by apply beq_false_of_ne;have:dg b≠[]:=fun h=>hb (RN.1 h);have:=List.length_pos_iff.2 this;omega
 rw[aD h,bSx (by omega) ha hbl hN,aC]
theorem JI:cx (N+1) (dg a) (dg 0)=some (dg a):=by show pP N (fun _=>cx N) (dg a) (dg 0)=_;unfold pP;rw[td];rfl
theorem OK:∀(k N a b:Nat),b<2^k->(dg a).length<=70000000->(dg b).length<=70000000->8589934592+2*k+2<N->cx N (dg a) (dg b)=some (dg (Nat.gcd a b))
 |0,N,a,b,hk,ha,hb,hN=>by
  have:b=0:=by omega
  subst this;obtain⟨M,rfl⟩:∃M,N=M+1:=⟨N-1,by omega⟩;rw[JI,Nat.gcd_zero_right]
 |k+1,N,a,b,hk,ha,hb,hN=>by
  obtain⟨M,rfl⟩:∃M,N=M+1+1:=⟨N-2,by omega⟩;rcases aba b with h|h
  ·subst h;rw[JI,Nat.gcd_zero_right]
  ·have hr:=acg a h;rw[Lq (by omega) ha hb (by omega)];have hrl:=aaJ (FG (acq hr)) hb;rcases aba (a%b)with h0|h0
   ·rw[h0,JI,aC];rw[Nat.gcd_comm,Nat.gcd_rec,h0,Nat.gcd_zero_left]
   ·have hr2:=acg b h0;have hdm:=adk b (a%b);have hd1:1<=b/(a%b):=(Nat.le_div_iff_mul_le h0).2 (by omega);have hh:=Nat.mul_le_mul_left (a%b) hd1;rw[Lq (by omega) hb hrl (by omega),OK k M (a%b) (b%(a%b)) (by rw[ac7]at hk;omega) hrl (aaJ (FG (acq hr2)) hrl) (by omega)];rw[aC,aC,Nat.gcd_comm (a%b),<-Nat.gcd_rec,<-Nat.gcd_rec,Nat.gcd_comm]
def st(n:Nat):bw:=if h:n=0 then[]else st (n/256)++[UInt8.ofNat (n%256)]
termination_by n
decreasing_by omega
theorem BD:st 0=[]:=by unfold st;simp
theorem DT(h:n≠0):st n=st (n/256)++[UInt8.ofNat (n%256)]:=by rw[st];simp[h]
theorem rZ:∀(n:Nat),nb (st n)=n:=fun n=>by
 induction n using abE with
 |_ n ih=>
  by_cases h:n=0
  ·subst h;rw[BD];rfl
  ·rw[DT h,IU,ih (n/256) (by omega),acr];omega
def Can(s:bw):Prop:=∀b,s.head?=some b->b≠0
theorem L8{b:UInt8}(h:b≠0):256^s.length<=nb (b::s):=by
 rw[AN];have:1<=b.toNat:=by have:b.toNat≠0:=fun e=>h (acT.1 e);omega
 have:=aaG (256^s.length) this;omega
theorem M0:∀(n:Nat) (s:bw),Can s->nb s=n->st n=s:=fun n=>by
 induction n using abE with
 |_ n ih=>
  intro s hs hn;rcases acy s with rfl|⟨l,b,rfl⟩
  ·have:n=0:=hn.symm;subst this;exact BD
  ·rw[acz]at hs hn|-;rw[IU]at hn;have hb:=b.toNat_lt;have h0:n≠0:=by
    intro h;cases l with
    |nil=>
     have:b.toNat=0:=by omega
     exact hs b rfl (acT.1 this)
    |cons c l=>
     have:=L8 (s:=l) (hs c rfl);have hp:0<256^l.length:=Nat.pow_pos (by decide);omega
   rw[DT h0,ih (n/256) (by omega) l (fun c hc=>hs c (by
    cases l with
    |nil=>cases hc
    |cons d l=>exact hc)) (by omega)]
   congr 2;apply acT.1;rw[acr];omega
theorem bNz(n:Nat):Can (st n):=by
 induction n using abE with
 |_ n ih=>
  by_cases h:n=0
  ·subst h;rw[BD];intro b hb;cases hb
  ·rw[DT h];intro b hb;by_cases h2:n/256=0
   ·rw[h2,BD]at hb;cases hb;intro e;have:=congrArg UInt8.toNat e;rw[acr]at this;have:n%256%256=0:=this;omega
   ·apply ih (n/256) (by omega) b;rw[DT h2]at hb|-;rw[ν]at hb;cases hst:st (n/256/256)with
    |nil=>rw[hst]at hb;exact hb
    |cons c l=>rw[hst]at hb;exact hb
def cl(s:bw):bw:=s.dropWhile (· ==0)
theorem Of:∀(s:bw),nb (cl s)=nb s
 |[]=>rfl
 |b::s=>by
  unfold cl;rw[adn];split
  ·rename_i h;have:b=0:=by simpa using h
   subst this;rw[AN];have:=Of s;unfold cl at this;rw[this];show _=0*_+_;omega
  ·rfl
theorem P1:∀(s:bw),Can (cl s)
 |[]=>by intro b h;cases h
 |c::s=>by
  unfold cl;rw[adn];split
  ·exact P1 s
  ·rename_i h;intro b hb;cases hb;simpa using h
theorem bR4(s:bw):cl s=st (nb s):=(M0 _ _ (P1 s) (Of s)).symm
theorem L2:∀(m:Nat) (s:bw),s.length<m->s.length<=1000000000000->cX m s 0=some (cl s)
 |0,_,h,_=>absurd h (aah _)
 |m+1,s,h,hb=>by
  show gU (cX m) s 0=_;unfold gU;cases s with
  |nil=>rfl
  |cons b s=>
   have hl:(b::s).length=s.length+1:=rfl;have e:(0:Int)=((0:Nat):Int):=rfl;rw[aE (decide_eq_true (by rw[hl];omega))];have hg:(b::s)[0]?=some b:=rfl;rw[lM (ady 0) (show(b::s)[(0:Int).toNat]?=some b from rfl),aC];dsimp only;unfold cl;rw[adn];by_cases h0:b=0
   ·subst h0;rw[aE (by decide),aB (by rw[hl];omega),aB (me _)];rw[show aaE ((0::s).length-1) (aaV 1 ((0:UInt8)::s))=s from adb ..];have:=L2 m s (by rw[hl]at h;omega) (by rw[hl]at hb;omega);rw[this];rfl
   ·have h1:(((b.toNat:Nat):Int)==0)=false:=by apply beq_false_of_ne;intro e;exact h0 (acT.1 (show b.toNat=0 by omega))
    rw[aD h1,if_neg (by simpa using h0)]
theorem SB(hN:s.length<N)(hb:s.length<=1000000000000):tU N s=some (cl s):=by
 unfold tU mR iY;cases s with
 |nil=>rfl
 |cons b s=>
  have h:((b::s)==([]:bw))=false:=rfl;rw[aD h,aC];dsimp only;have h2:(([0]:bw)==([]:bw))=false:=rfl;rw[aD h2];have h3:(bk ((((([0]:bw).length:Nat):Int)==1)) (bB ([0]:bw) (0) fun x4=>some ((b::s),([0]:bw),decide (((x4.toNat:Nat):Int)<128))) (some ((b::s),([0]:bw),false)))=some ((b::s),([0]:bw),true):=rfl;rw[h3,aC];dsimp only;rw[aE rfl];have h4:(bB ([0]:bw) 0 fun x6=>bj (cX N (b::s) ((x6.toNat:Nat):Int)) fun v7=>some v7)=bj (cX N (b::s) 0) fun v7=>some v7:=rfl;rw[h4,L2 N _ hN hb];rfl
theorem MF:∀(m i:Nat) (xs:List Int),xs.length-i<m->i<=xs.length->xs.length<=1000000000000->
  ∃ys,fQ m (i:Int) ((xs.length:Int)-1-i) xs=some ys/\ys.length=xs.length/\(∀k,i<=k->k<xs.length-i->ys[k]?=xs[xs.length-1-k]?)/\∀k,(k<i\/xs.length-i<=k)->ys[k]?=xs[k]?
 |0,_,_,h,_,_=>absurd h (aah _)
 |m+1,i,xs,hm,hi,hb=>by
  show∃ys,fP (fQ m) _ _ _=some ys/\_;unfold fP;by_cases h:i<xs.length-1-i
  ·have ej:((xs.length:Int)-1-i)=((xs.length-1-i:Nat):Int):=by omega
   have hj:xs.length-1-i<xs.length:=by omega
   rw[ej,aE (r9 h),aB (by omega),aB (by omega),π,fO (dV hj),aB (by omega),aB (by omega),π,fO (dV (show i<xs.length by omega)),aB (by omega),aB (by omega),fO (dV (show i<xs.length by omega)),aB (by omega),aB (by omega),fO (dV (show xs.length-1-i<(xs.set i xs[xs.length-1-i]).length by rw[aa5];omega)),aI (by omega) (by omega),aI (by omega) (by omega),kE (by rw[aa5,aa5])];have hl:((xs.set i xs[xs.length-1-i]).set (xs.length-1-i) xs[i]).length=xs.length:=by rw[aa5,aa5]
   obtain⟨ys,h1,h2,h3,h4⟩:=MF m (i+1) ((xs.set i xs[xs.length-1-i]).set (xs.length-1-i) xs[i]) (by rw[hl];omega) (by rw[hl];omega) (by rw[hl];omega);rw[hl]at h1 h2 h3 h4;rw[show(((i+1:Nat):Int))=(i:Int)+1 by omega,show(xs.length:Int)-1-((i:Int)+1)=((xs.length-1-i:Nat):Int)-1 by omega]at h1;refine⟨ys,h1,h2,fun k hk1 hk2=>?_,fun k hk=>?_⟩
   ·by_cases e1:k=i
    ·subst e1;rw[h4 k (.inl (by omega)),ab0 (by omega),acs (by omega),dV hj]
    ·by_cases e2:k=xs.length-1-i
     ·rw[h4 k (.inr (by omega)),e2,acs (by rw[aa5];omega),show xs.length-1-(xs.length-1-i)=i by omega,dV]
     ·rw[h3 k (by omega) (by omega),ab0 (by omega),ab0 (by omega)]
   ·rw[h4 k (by omega),ab0 (by omega),ab0 (by omega)]
  ·rw[aD (decide_eq_false (by omega))];refine⟨xs,rfl,rfl,fun k h1 h2=>?_,fun _ _=>rfl⟩;rw[show xs.length-1-k=k by omega]
theorem Zh(hN:xs.length<N)(hb:xs.length<=1000000000000):eB N xs=some xs.reverse:=by
 unfold eB;obtain⟨ys,h1,h2,h3,_⟩:=MF N 0 xs (by omega) (by omega) hb;rw[show((xs.length:Int)-1-((0:Nat):Int))=(xs.length:Int)-1 by omega]at h1;rw[aI (by omega) (by omega),aG];refine h1.trans (congrArg some (List.ext_getElem? fun k=>?_));by_cases hk:k<xs.length
 ·rw[h3 k (by omega) (by omega),List.getElem?_reverse hk]
 ·rw[aay (by omega),aay (by rw[acQ];omega)]
theorem RK(a b:List Int):bA (a++b)=bA a++bA b:=List.map_append
theorem C8(x:Int):(UInt8.ofNat (δ .u8 x).toNat).toNat=(x%256).toNat:=by rw[w8,acr];omega
theorem Jy(k:Nat):W k=((256^(4*k):Nat):Int):=by unfold W;rw[Nat.pow_mul,adi];rfl
theorem KI{N:Nat}{xs:List Int}(hx:fj xs)(hb:xs.length<=100000000)(hN:8589934592<N):∀(m k:Nat) (out:List Int),xs.length-k<m->k<=xs.length->out.length=4*k->((nb (bA out.reverse):Nat):Int)=lv (xs.take k)->
  mK N m xs (xs.length:Int) (k:Int) out=some (st (lv xs).toNat)
 |0,_,_,h,_,_,_=>absurd h (aah _)
 |m+1,k,out,hm,hk,hl,hinv=>by
  show mG N (mK N m) xs _ _ out=_;unfold mG;by_cases hlt:k<xs.length
  ·have dx:=dM hx (dV hlt);rw[aE (r9 hlt),cQ (dV hlt),aG,aB (by show(out.length+4)*1<=_;omega),aI (by omega) (by omega),aG];rw[show((k:Int)+1)=((k+1:Nat):Int) by omega];refine KI hx hb hN m (k+1) _ (by omega) (by omega) (by rw[ε,hl];show 4*k+4=_;omega) ?_;rw[Bn (dV hlt),List.reverse_append,RK,EH,<-hinv];have hlen:(bA out.reverse).length=4*k:=by unfold bA;rw[κ,acQ,hl]
   rw[hlen,Jy];generalize xs[k]=d at*;have e8:(2:Int)^8=256:=by decide
   have e16:(2:Int)^16=65536:=by decide
   have e24:(2:Int)^24=16777216:=by decide
   have e:((nb (bA ([δ .u8 d,δ .u8 (d/2^8),δ .u8 (d/2^16),δ .u8 (d/2^24)].reverse)):Nat):Int)=d:=by show((nb [UInt8.ofNat (δ .u8 (d/2^24)).toNat,UInt8.ofNat (δ .u8 (d/2^16)).toNat,UInt8.ofNat (δ .u8 (d/2^8)).toNat,UInt8.ofNat (δ .u8 d).toNat]:Nat):Int)=d;show(((256*(256*(256*(256*0+(UInt8.ofNat (δ .u8 (d/2^24)).toNat).toNat)+(UInt8.ofNat (δ .u8 (d/2^16)).toNat).toNat)+(UInt8.ofNat (δ .u8 (d/2^8)).toNat).toNat)+(UInt8.ofNat (δ .u8 d).toNat).toNat:Nat)):Int)=d;rw[C8,C8,C8,C8,e8,e16,e24];omega
   rw[Int.natCast_add,abb,e];generalize((256^(4*k):Nat):Int)=w
   grind
  ·have hk':k=xs.length:=by omega
   subst hk';rw[adb]at hinv;have hlb:(bA out.reverse).length=out.length:=by unfold bA;rw[κ,acQ]
   rw[aD (qo hlt),aG,Zh (by omega) (by omega),aC,kE (by rw[acQ]),SB (by omega) (by omega),aC,bR4];congr 2;omega
theorem C6(hb:(dg n).length<=100000000)(hN:8589934592<N):eW N (dg n)=some (st n):=by unfold eW;have:=KI (dP n) hb hN N 0 [] (by omega) (by omega) rfl rfl;rw[iJ,π]at this;exact this
theorem Nz(h:n<256^k):(st n).length<=k:=by
 cases hs:st n with
 |nil=>exact aa2 _
 |cons b l=>
  have hc:=bNz n b (by rw[hs];rfl);have:=L8 (s:=l) hc;rw[<-hs,rZ]at this;apply acJ;intro h2;have h3:k<=l.length:=by have:(b::l).length=l.length+1:=rfl;omega
  have:=aa3 (n:=256) (by decide) h3;omega
theorem tu:(dg (nb s)).length<=s.length:=rM (by
 rw[Jy];have h1:=vF s;have h2:256^s.length<=256^(4*s.length):=aa3 (by decide) (by omega);omega)
theorem NA(h:n<256^k):(dg n).length<=k:=rM (by
 rw[Jy];have h2:256^k<=256^(4*k):=aa3 (by decide) (by omega);omega)
theorem IE(ha:a<256^k)(hb:b<256^j):a*b<256^(k+j):=by rw[Nat.pow_add];have h1:=aaG b (acq ha);have h2:=Nat.mul_lt_mul_of_pos_left hb (show 0<256^k by omega);omega
theorem U6(ha:a<256^k)(hb:b<256^k):a+b<256^(k+1):=by rw[ac7];omega
theorem bQx(hs:s.length<=50000000)(ht:t.length<=50000000)(hN:17179869184<N):D5 N s t=some (st (Nat.gcd (nb s) (nb t))):=by
 unfold D5;have h1:=tu (s:=s);have h2:=tu (s:=t);have h3:=vF t;rw[show 256^t.length=2^(8*t.length) by rw[Nat.pow_mul]]at h3;rw[pJ (by omega) (by omega),aC,pJ (by omega) (by omega),aC,OK _ N _ _ h3 (by omega) (by omega) (by omega),aC];have h4:(dg (Nat.gcd (nb s) (nb t))).length<=100000000:=by
  rcases aba (nb s)with h|h
  ·rw[h,Nat.gcd_zero_left];omega
  ·exact aaJ (FG (Nat.gcd_le_left _ h)) (by omega)
 rw[C6 h4 (by omega),aC]
theorem Js(hs:s.length<=40000000)(ht:t.length<=40000000)(hN:17179869184<N):rE N s t=some (st (nb s*nb t)):=by unfold rE;have h1:=tu (s:=s);have h2:=tu (s:=t);have h3:=NA (IE (vF s) (vF t));rw[pJ (by omega) (by omega),aC,pJ (by omega) (by omega),aC,bIr (by omega) (by omega),aC,C6 (by omega) (by omega),aC]
theorem Xa(hs:s.length<=50000000)(ht:t.length<=50000000)(hN:17179869184<N):DP N s t=some (st (nb s+nb t)):=by unfold DP;have h1:=tu (s:=s);have h2:=tu (s:=t);have h3:(dg (nb s+nb t)).length<=max s.length t.length+1:=NA (U6 (aa0 (vF s) (aa3 (by decide) (Nat.le_max_left ..))) (aa0 (vF t) (aa3 (by decide) (Nat.le_max_right ..))));rw[pJ (by omega) (by omega),aC,pJ (by omega) (by omega),aC,XY (by omega) (by omega) (by omega),aC,C6 (by omega) (by omega),aC]
theorem bQd(hs:s.length<=100000000)(ht:t.length<=100000000)(hN:17179869184<N):Ej N s t=some (jY (nb s) (nb t)):=by unfold Ej;have h1:=tu (s:=s);have h2:=tu (s:=t);rw[pJ (by omega) (by omega),aC,pJ (by omega) (by omega),aC,wI (by omega) (by omega) (by omega),aC]
theorem K6(h:nb t<=nb s)(hs:s.length<=100000000)(ht:t.length<=100000000)(hN:17179869184<N):D9 N s t=some (st (nb s-nb t),0):=by unfold D9;have h1:=tu (s:=s);have h2:=tu (s:=t);have h3:=FG (Nat.sub_le (nb s) (nb t));rw[pJ (by omega) (by omega),aC,pJ (by omega) (by omega),aC,wI (by omega) (by omega) (by omega),aC,Dw,aD (qo (by omega)),F5 h (by omega) (by omega),aC,C6 (by omega) (by omega),aC]
def Bp:bw->Bool
 |[]=>true
 |b::_=>b !=0
theorem P6:pN N s=some (Bp s):=by
 unfold pN;cases s with
 |nil=>rfl
 |cons b l=>
  rw[aD (show((b::l)==([]:bw))=false from rfl)];show some ((((b.toNat:Nat):Int)!=0))=some (b !=0);congr 1;by_cases h:b=0
  ·subst h;rfl
  ·have h1:((b.toNat:Nat):Int)≠0:=fun e=>h (acT.1 (show b.toNat=0 by omega));rw[bne_iff_ne .. |>.2 h,bne_iff_ne .. |>.2 h1]
abbrev Rt:=Bool×(bw×bw)
variable{p:Rt}
def rv(p:Rt):Bool:=(p.1==false&&(p.2.1==([]:bw)&&p.2.2==([]:bw)))||(!(p.2.1==([]:bw))&& !(p.2.2==([]:bw))&&Bp p.2.1&&Bp p.2.2&&decide (Nat.gcd (nb p.2.1) (nb p.2.2)=1))
theorem VC:st 1=[1]:=M0 1 [1] (fun b h=>by cases h;decide) rfl
theorem bP3:(st n==([1]:bw))=decide (n=1):=by
 by_cases h:n=1
 ·subst h;rw[VC];decide
 ·rw[decide_eq_false h];apply beq_false_of_ne;intro e;have:=rZ n;rw[e]at this;exact h this.symm
theorem Pc(h1:p.2.1.length<=50000000)(h2:p.2.2.length<=50000000)(hN:17179869184<N):mZ N p=some (rv p):=by
 obtain⟨s,a,b⟩:=p;unfold mZ rv;rw[P6,P6,bQx h1 h2 hN];show(bk (s==false&&(a==[]&&b==[])) _ _)=some ((s==false&&(a==[]&&b==[]))||_);cases hc:(s==false&&(a==[]&&b==[]))
 ·rw[aD rfl,acf];dsimp only;cases ha:(a==([]:bw))
  ·cases hb:(b==([]:bw))
   ·rw[show(!false)=true from rfl,aE rfl,aE rfl,aC];cases hva:Bp a
    ·rfl
    ·rw[aE rfl,aC];cases hvb:Bp b
     ·rfl
     ·rw[aE rfl,aC,bP3];rfl
   ·rfl
  ·rfl
 ·rfl
def rn(p:Rt):Rt:=if p.2.1==([]:bw)|| !rv p then(false,([],[1]))else p
theorem M8(h1:p.2.1.length<=50000000)(h2:p.2.2.length<=50000000)(hN:17179869184<N):yW N p=some (rn p):=by
 obtain⟨s,a,b⟩:=p;unfold yW rn;have hv:=Pc (p:=(s,(a,b))) h1 h2 hN;dsimp only at*;rw[hv];cases ha:(a==([]:bw))
 ·cases hr:rv (s,(a,b))
  ·rfl
  ·rfl
 ·rfl
def Gb(p q:Rt):Rt:=
 if p.1=q.1 then(p.1,(st (nb p.2.1*nb q.2.2+nb q.2.1*nb p.2.2),st (nb p.2.2*nb q.2.2)))
 else if nb p.2.1*nb q.2.2<nb q.2.1*nb p.2.2 then(q.1,(st (nb q.2.1*nb p.2.2-nb p.2.1*nb q.2.2),st (nb p.2.2*nb q.2.2)))
 else(p.1,(st (nb p.2.1*nb q.2.2-nb q.2.1*nb p.2.2),st (nb p.2.2*nb q.2.2)))
theorem Xk{q:Rt}(h1:p.2.1.length<=20000000)(h2:p.2.2.length<=20000000)(h3:q.2.1.length<=20000000)(h4:q.2.2.length<=20000000)(hN:17179869184<N):iC N p q=some (Gb p q):=by
 obtain⟨s,a,b⟩:=p;obtain⟨t,c,d⟩:=q;unfold iC Gb;dsimp only at*;have l1:=Nz (IE (vF a) (vF d));have l2:=Nz (IE (vF c) (vF b));rw[Js (by omega) (by omega) hN,aC,Js (by omega) (by omega) hN,aC,Js (by omega) (by omega) hN,aC];by_cases hs:s=t
 ·rw[if_pos hs,aE (by simpa using hs),Xa (by omega) (by omega) hN,aC,rZ,rZ]
 ·rw[if_neg hs,aD (by simpa using hs),bQd (by omega) (by omega) hN,aC,Dw,rZ,rZ];by_cases hl:nb a*nb d<nb c*nb b
  ·rw[if_pos hl,aE (r9 hl),aC];dsimp only;rw[K6 (by rw[rZ,rZ];omega) (by omega) (by omega) hN,aC,rZ,rZ]
  ·rw[if_neg hl,aD (qo hl),aC];dsimp only;rw[K6 (by rw[rZ,rZ];omega) (by omega) (by omega) hN,aC,rZ,rZ]
def sg(s:Bool)(n:Nat):Int:=if s then-(n:Int)else n
def GM(p q:Rt):Int:=jY (sg (rn p).1 (nb (rn p).2.1*nb (rn q).2.2)) (sg (rn q).1 (nb (rn q).2.1*nb (rn p).2.2))
theorem HS:(st n==([]:bw))=decide (n=0):=by
 by_cases h:n=0
 ·subst h;rw[BD];rfl
 ·rw[decide_eq_false h];apply beq_false_of_ne;intro e;have:=rZ n;rw[e]at this;exact h this.symm
theorem Kj(hk:1<=k)(h1:p.2.1.length<=k)(h2:p.2.2.length<=k):(rn p).2.1.length<=k/\(rn p).2.2.length<=k:=by
 unfold rn;split
 ·exact⟨aa2 _,hk⟩
 ·exact⟨h1,h2⟩
theorem Zi{q:Rt}(h1:p.2.1.length<=20000000)(h2:p.2.2.length<=20000000)(h3:q.2.1.length<=20000000)(h4:q.2.2.length<=20000000)(hN:17179869184<N):vU N p q=some (GM p q):=by
 unfold vU lD GM;have e1:=M8 (N:=N) (p:=p) (by omega) (by omega) hN;have e2:=M8 (N:=N) (p:=q) (by omega) (by omega) hN;have l1:=Kj (p:=p) (by decide) h1 h2;have l2:=Kj (p:=q) (by decide) h3 h4;obtain⟨s,a,b⟩:=p;obtain⟨t,c,d⟩:=q;dsimp only at*;rw[e1,aC,e2,aC];generalize rn (s,(a,b))=x at*;generalize rn (t,(c,d))=y at*;obtain⟨s,a,b⟩:=x;obtain⟨t,c,d⟩:=y;dsimp only at*;rw[Xk l1.1 l1.2 l2.1 l2.2 hN,aC,aC];unfold Gb;dsimp only;have hmn:∀u v:Nat,(0:Int)<=((u*v:Nat):Int):=fun u v=>by omega
 generalize nb a*nb d=m;generalize nb c*nb b=n;unfold jY sg;by_cases hs:s=!t
 ·rw[if_pos hs];dsimp only;rw[HS];by_cases h0:m+n=0
  ·have:m=0:=by omega
   have:n=0:=by omega
   subst_vars
   cases t<;>rfl
  ·rw[decide_eq_false h0,aD rfl];cases s<;>cases t<;>first|(exact absurd hs (by decide))|skip
   ·rw[aD rfl,if_neg (by simp<;>omega),if_neg (by simp<;>omega)]
   ·rw[aE rfl,if_pos (by simp<;>omega)]
 ·rw[if_neg hs];by_cases hl:m<n
  ·rw[if_pos hl];dsimp only;rw[HS,decide_eq_false (by omega),aD rfl];cases s<;>cases t<;>first|(exact absurd rfl hs)|skip
   ·rw[show(!false)=true from rfl,aE rfl,if_pos (by simp<;>omega)]
   ·rw[show(!true)=false from rfl,aD rfl,if_neg (by simp<;>omega),if_neg (by simp<;>omega)]
  ·rw[if_neg hl];dsimp only;rw[HS];by_cases h0:m-n=0
   ·have:m=n:=by omega
    subst this;rw[h0];cases s<;>cases t<;>first|(exact absurd rfl hs)|skip
    ·rw[aE (by decide),if_neg (by simp),if_pos (by simp)]
    ·rw[aE (by decide),if_neg (by simp),if_pos (by simp)]
   ·rw[decide_eq_false h0,aD rfl];cases s<;>cases t<;>first|(exact absurd rfl hs)|skip
    ·rw[aD rfl,if_neg (by simp<;>omega),if_neg (by simp<;>omega)]
    ·rw[aE rfl,if_pos (by simp<;>omega)]
abbrev Vr:=TH
variable{x y:Vr}{A C U l R Y:List Vr}
theorem wV(A:List α)(x:α)(R:List α)(y:α):(A++x::R).set A.length y=A++y::R:=by simp
theorem gW(A:List α)(x:α)(R:List α):(A++x::R)[A.length]?=some x:=by simp
theorem MO:∀(X Y:List Vr) (m:Nat) (A M C:List Vr) (a b n i:Nat),X.length=Y.length->A.length=a+i->b+i=A.length+X.length+M.length->n=i+X.length->X.length<m->(A++(X++(M++(Y++C)))).length<=1000000000000->
  cF m (a:Int) (b:Int) (n:Int) (i:Int) (A++(X++(M++(Y++C))))=some (A++(Y++(M++(X++C))))
 |_,_,0,_,_,_,_,_,_,_,_,_,_,_,h,_=>absurd h (aah _)
 |[],Y,m+1,A,M,C,a,b,n,i,hl,ha,hb,hn,hm,hL=>by
  have hY:Y=[]:=aas.1 hl.symm;subst hY;show bF (cF m) _ _ _ _ _=_;unfold bF;have:n=i:=hn;rw[aD (decide_eq_false (by omega))]
 |x::X,[],m+1,A,M,C,a,b,n,i,hl,ha,hb,hn,hm,hL=>by cases hl
 |x::X,y::Y,m+1,A,M,C,a,b,n,i,hl,ha,hb,hn,hm,hL=>by
  show bF (cF m) _ _ _ _ _=_;unfold bF;have lx:(x::X).length=X.length+1:=rfl;have ly:(y::Y).length=Y.length+1:=rfl;have hlen:(A++(x::X++(M++(y::Y++C)))).length=A.length+(X.length+1+(M.length+(Y.length+1+C.length))):=by simp only[ε,aab]
  rw[lx]at hb hn hm;rw[hlen]at hL;have ea:(a:Int)+(i:Int)=((A.length:Nat):Int):=by omega
  have eb:(b:Int)+(i:Int)=(((A++(x::X++M)).length:Nat):Int):=by simp only[ε,aab];omega
  have g1:(A++(x::X++(M++(y::Y++C))))[A.length]?=some x:=gW A x _;have r2:A++(x::X++(M++(y::Y++C)))=(A++(x::X++M))++y::(Y++C):=by simp
  have g2:(A++(x::X++(M++(y::Y++C))))[(A++(x::X++M)).length]?=some y:=by rw[r2];exact gW _ y _
  have hbl:(A++(x::X++M)).length=A.length+(X.length+1+M.length):=by simp only[ε,aab]
  have ly':X.length=Y.length:=by rw[lx,ly]at hl;omega
  rw[aE (decide_eq_true (by omega)),ea,eb,aI (by omega) (by omega),aI (by omega) (by omega),aI (by omega) (by omega),aB (by omega),aB (by rw[hlen];omega),π,fO g2,aI (by omega) (by omega),aB (by omega),aB (by rw[hlen];omega),π,fO g1,aB (by omega),aB (by rw[hlen];omega),fO g1,aB (by omega),aB (by rw[hlen];omega)];have s1:(A++(x::X++(M++(y::Y++C)))).set A.length y=A++(y::X++(M++(y::Y++C))):=wV A x _ y;have r3:A++(y::X++(M++(y::Y++C)))=(A++(y::X++M))++y::(Y++C):=by simp
  have l3:(A++(y::X++M)).length=(A++(x::X++M)).length:=by simp only[ε,aab]
  have g3:(A++(y::X++(M++(y::Y++C))))[(A++(x::X++M)).length]?=some y:=by rw[r3,<-l3];exact gW _ y _
  have s2:(A++(y::X++(M++(y::Y++C)))).set (A++(x::X++M)).length x=(A++[y])++(X++((M++[x])++(Y++C))):=by rw[r3,<-l3,wV];simp
  show cw ((A++(x::X++(M++(y::Y++C)))).set A.length y) _ _=_;rw[s1,fO g3,aI (by omega) (by omega),s2,kE (by simp only[ε,aab,aaC];omega)];have:=MO X Y m (A++[y]) (M++[x]) C a b n (i+1) ly' (by rw[ε];show A.length+1=_;omega) (by rw[ε,ε];show _=A.length+1+_+(M.length+1);omega) (by omega) (by omega) (by simp only[ε,aab,aaC];omega);rw[show((i:Int)+1)=((i+1:Nat):Int) by omega];refine this.trans ?_;simp
theorem Gc{X M:List Vr}(h:X.length=Y.length)(hN:X.length<N)(hL:(A++(X++(M++(Y++C)))).length<=1000000000000):aW N (A.length:Int) ((A.length+X.length+M.length:Nat):Int) (X.length:Int) (A++(X++(M++(Y++C))))=some (A++(Y++(M++(X++C)))):=by unfold aW;rw[aG];exact MO X Y N A M C _ _ _ 0 h rfl rfl (by omega) hN hL
theorem IL{N:Nat}:∀(m:Nat) (A U V C:List Vr),U.length+V.length<m->0<U.length->0<V.length->U.length+V.length<N->(A++(U++(V++C))).length<=1000000000000->
  dW N m ((A.length+U.length:Nat):Int) (U.length:Int) (V.length:Int) (A++(U++(V++C)))=some (A++(V++(U++C)))
 |0,_,_,_,_,h,_,_,_,_=>absurd h (aah _)
 |m+1,A,U,V,C,hm,hu,hv,hN,hL=>by
  show dX N (dW N m) _ _ _ _=_;unfold dX;have hlen:(A++(U++(V++C))).length=A.length+(U.length+(V.length+C.length)):=by simp only[ε]
  have e1:((A.length+U.length:Nat):Int)-(U.length:Int)=(A.length:Int):=by omega
  by_cases hne:U.length=V.length
  ·have h:((U.length:Int)!=(V.length:Int))=false:=by simp[hne]
   rw[aD h,e1,aI (by omega) (by omega),aG];have:=Gc (N:=N) (A:=A) (X:=U) (M:=[]) (Y:=V) (C:=C) hne (by omega) hL;rw[show A.length+U.length+([]:List Vr).length=A.length+U.length from rfl]at this;rw[show A++(U++(V++C))=A++(U++([]++(V++C)))from rfl,this,aC];rfl
  ·have h:((U.length:Int)!=(V.length:Int))=true:=by rw[bne_iff_ne];omega
   rw[aE h];by_cases hlt:V.length<U.length
   ·rw[aE (decide_eq_true (by omega)),e1,aI (by omega) (by omega),aG];obtain⟨U1,U2,rfl,h1⟩:∃U1 U2,U=U1++U2/\U1.length=V.length:=⟨U.take V.length,U.drop V.length,(aa8 _ _).symm,by rw[aaq];omega⟩;have hl1:(U1++U2).length=U1.length+U2.length:=ε;rw[hl1]at hm hu hN hlt hlen|-;rw[hlen]at hL;have:=Gc (N:=N) (A:=A) (X:=U1) (M:=U2) (Y:=V) (C:=C) h1 (by omega) (by simp only[ε];omega);rw[show A.length+U1.length+U2.length=A.length+(U1.length+U2.length) by omega,h1]at this;rw[ν U1,h1,this,aC,aI (by omega) (by omega),kE (by simp only[ε];omega)];have ih:=IL (N:=N) m (A++V) U2 U1 C (by omega) (by omega) (by omega) (by omega) (by simp only[ε];omega);rw[h1,ε,show A.length+V.length+U2.length=A.length+(V.length+U2.length) by omega,show A++V++(U2++(U1++C))=A++(V++(U2++(U1++C))) by simp]at ih;rw[show((V.length+U2.length:Nat):Int)-(V.length:Int)=(U2.length:Int) by omega,ih];simp
   ·rw[aD (decide_eq_false (by omega)),e1,aI (by omega) (by omega),aI (by omega) (by omega)];obtain⟨V1,V2,rfl,h1⟩:∃V1 V2,V=V1++V2/\V2.length=U.length:=⟨V.take (V.length-U.length),V.drop (V.length-U.length),(aa8 _ _).symm,by rw[aaz];omega⟩;have hl1:(V1++V2).length=V1.length+V2.length:=ε;rw[hl1]at hm hv hN hlt hlen hne|-;rw[hlen]at hL;have:=Gc (N:=N) (A:=A) (X:=U) (M:=V1) (Y:=V2) (C:=C) h1.symm (by omega) (by simp only[ε];omega);have e2:((A.length+U.length:Nat):Int)+((V1.length+V2.length:Nat):Int)-(U.length:Int)=((A.length+U.length+V1.length:Nat):Int):=by omega
    rw[e2,aI (by omega) (by omega),aG,ν V1,this,aC,aI (by omega) (by omega),kE (by simp only[ε];omega)];have ih:=IL (N:=N) m A V2 V1 (U++C) (by omega) (by omega) (by omega) (by omega) (by simp only[ε];omega);rw[h1]at ih;rw[show((V1.length+V2.length:Nat):Int)-(U.length:Int)=(V1.length:Int) by omega,ih];simp
theorem bOr{V:List Vr}(hu:0<U.length)(hv:0<V.length)(hN:U.length+V.length<N)(hL:(A++(U++(V++C))).length<=1000000000000):cE N (A.length:Int) ((A.length+U.length:Nat):Int) ((A.length+U.length+V.length:Nat):Int) (A++(U++(V++C)))=some (A++(V++(U++C))):=by
 unfold cE;have hlen:(A++(U++(V++C))).length=A.length+(U.length+(V.length+C.length)):=by simp only[ε]
 rw[aI (by omega) (by omega),aI (by omega) (by omega),aG,show((A.length+U.length:Nat):Int)-(A.length:Int)=(U.length:Int) by omega,show((A.length+U.length+V.length:Nat):Int)-((A.length+U.length:Nat):Int)=(V.length:Int) by omega];exact IL N A U V C hN hu hv hN hL
def ik(x y:Vr):Prop:=x.2.1<y.2.1\/(x.2.1=y.2.1/\x.2.2.1<y.2.2.1)
instance(x y:Vr):Decidable (ik x y):=inferInstanceAs (Decidable (_\/_))
def ju(x y:Vr):Prop:=¬ik y x
def yA(x y:Vr):Int:=if jY x.2.1 y.2.1≠0 then jY x.2.1 y.2.1 else jY x.2.2.1 y.2.2.1
theorem vT{z:Vr}(h:ju x y)(h':ju y z):ju x z:=by unfold ju ik at*;omega
theorem EZ(h:ik x y):ju x y:=by unfold ju;unfold ik at*;omega
theorem Q2:yA x y<0↔ik x y:=by
 unfold yA jY ik
 repeat' split
 all_goals omega
theorem D1:decide (yA x y<0)=decide (ik x y):=decide_eq_decide.2 Q2
theorem Ip:yA x y=0↔x.2.1=y.2.1/\x.2.2.1=y.2.2.1:=by
 unfold yA jY
 repeat' split
 all_goals omega
theorem Ge(N:Nat)(x y:Vr):fN N x y=some (yA x y):=by
 unfold fN yA;rw[Ah,aC,Ah,aC];by_cases h:jY x.2.1 y.2.1=0
 ·rw[if_neg (by omega),aD (by rw[h];rfl)]
 ·rw[if_pos h,aE (by rw[bne_iff_ne];exact h)]
theorem DG(N:Nat)(x y:Vr):eD N x y=some (yA x y):=by unfold eD;have:=Ge N x y;refine(congrArg (fun z=>bj z fun v3=>some v3) this).trans rfl
abbrev je(l:List Vr):Prop:=l.Pairwise ju
theorem MN{S1 S2:List Vr}(h:je (S1++S2))(h2:∀s∈S2,ik x s)(h1:∀s∈S1,ju s x):je (S1++x::S2):=by
 rw[je,abl]at h|-;refine⟨h.1,aav.2 ⟨fun s hs=>EZ (h2 s hs),h.2.1⟩,fun a ha b hb=>?_⟩;rcases υ.1 hb with e|hb
 ·subst e;exact h1 a ha
 ·exact h.2.2 a ha b hb
theorem WC{S:List Vr}(h:je (S++[y]))(hx:ju y x):∀s∈S++[y],ju s x:=fun s hs=>by
 rw[je,abl]at h;rcases aaj.1 hs with h1|h1
 ·exact vT (h.2.2 s h1 y (by simp)) hx
 ·rw[aap.1 h1];exact hx
theorem L3{N:Nat}{rec4:Int->Int->Int->List Vr->Option (List Vr)}{A C:List Vr}{b i:Int}(hi:0<=i/\i<=1000000000000){x:Vr}:∀(n:Nat) (S1 S2:List Vr) (m:Nat),S1.length=n->n<m->je (S1++S2)->(∀s∈S2,ik x s)->(A++(S1++(x::(S2++C)))).length<=1000000000000->
  ∃W,W.Perm (S1++x::S2)/\je W/\bN N rec4 m (A.length:Int) b i ((A.length+n:Nat):Int) (A++(S1++(x::(S2++C))))=rec4 (A.length:Int) b (i+1) (A++(W++C))
 |_,_,_,0,_,h,_,_,_=>absurd h (aah _)
 |0,S1,S2,m+1,hl,hm,hs,h2,hL=>by
  have:S1=[]:=aas.1 hl;subst this;refine⟨x::S2,.refl _,MN hs h2 (fun s h=>by cases h),?_⟩;show aS N rec4 (bN N rec4 m) _ _ _ _ _=_;unfold aS;rw[aD (decide_eq_false (by omega)),aG,aC];dsimp only;rw[aD rfl,aI (by omega) (by omega),aG];rfl
 |n+1,S1,S2,m+1,hl,hm,hs,h2,hL=>by
  obtain⟨S,y,rfl⟩:∃S y,S1=S++[y]:=by
   rcases acy S1 with rfl|⟨S,y,rfl⟩
   ·cases hl
   ·exact⟨S,y,acz⟩
  have hn:S.length=n:=by rw[ε]at hl;exact Nat.succ.inj hl
  have hlen:(A++(S++[y]++(x::(S2++C)))).length=A.length+(n+1+(S2.length+C.length+1)):=by simp only[ε,aab,aaC,hn]<;>omega
  rw[hlen]at hL;have r1:A++(S++[y]++(x::(S2++C)))=(A++S++[y])++x::(S2++C):=by simp
  have r2:A++(S++[y]++(x::(S2++C)))=(A++S)++y::(x::(S2++C)):=by simp
  have l1:(A++S++[y]).length=A.length+(n+1):=by rw[ε,ε,hn];rfl
  have l2:(A++S).length=A.length+n:=by rw[ε,hn]
  have g1:(A++(S++[y]++(x::(S2++C))))[A.length+(n+1)]?=some x:=by rw[r1,<-l1];exact gW _ x _
  have g2:(A++(S++[y]++(x::(S2++C))))[A.length+n]?=some y:=by rw[r2,<-l2];exact gW _ y _
  have e1:((A.length+(n+1):Nat):Int)-1=((A.length+n:Nat):Int):=by omega
  show∃W,_/\_/\aS N rec4 (bN N rec4 m) _ _ _ _ _=_;unfold aS;rw[aE (decide_eq_true (by omega)),aB (by omega),aB (by rw[hlen];omega),π,fO g1,aI (by omega) (by omega),e1,aB (by omega),aB (by rw[hlen];omega),π,fO g2,DG,aC,aG,aC];dsimp only;have ho:=D1 (x:=x) (y:=y);by_cases hlt:ik x y
  ·rw[decide_eq_true hlt]at ho;rw[aE ho,aI (by omega) (by omega),aI (by omega) (by omega),e1,aB (by omega),aB (by rw[hlen];omega),π,fO g2,aB (by omega),aB (by rw[hlen];omega),π,fO g1,aB (by omega),aB (by rw[hlen];omega),fO g1,aB (by omega),aB (by rw[hlen];omega)];have s1:(A++(S++[y]++(x::(S2++C)))).set (A.length+(n+1)) y=(A++S++[y])++y::(S2++C):=by rw[r1,<-l1,wV]
   have r3:(A++S++[y])++y::(S2++C)=(A++S)++y::(y::(S2++C)):=by simp
   have s2:((A++S++[y])++y::(S2++C)).set (A.length+n) x=A++(S++(x::((y::S2)++C))):=by rw[r3,<-l2,wV];simp
   have g3:((A++S++[y])++y::(S2++C))[A.length+n]?=some y:=by rw[r3,<-l2];exact gW _ y _
   have ha:je (S++y::S2):=by rw[show S++y::S2=S++[y]++S2 by simp];exact hs
   obtain⟨W,w1,w2,w3⟩:=L3 hi (N:=N) (rec4:=rec4) (A:=A) (C:=C) (b:=b) n S (y::S2) m hn (by omega) ha (fun s h=>by
    rcases υ.1 h with rfl|h
    ·exact hlt
    ·exact h2 s h) (by simp only[ε,aab,hn];omega)
   refine⟨W,w1.trans ?_,w2,?_⟩
   ·simp only[ν,ab5,aaW];exact(List.Perm.swap _ _ _).append_left S
   ·refine Eq.trans ?_ w3;show cw ((A++(S++[y]++(x::(S2++C)))).set (A.length+(n+1)) y) _ _=_;rw[s1,fO g3,aI (by omega) (by omega),s2,kE (by simp only[ε,aab,aaC];omega)]
  ·rw[decide_eq_false hlt]at ho;rw[aD ho,aI (by omega) (by omega),aG];refine⟨S++[y]++x::S2,.refl _,MN hs h2 (WC (abl.1 hs).1 hlt),?_⟩;simp
theorem QQ{N:Nat}{A C:List Vr}:∀(R S:List Vr) (m:Nat),R.length<m->je S->0<S.length->S.length+R.length<N->(A++(S++(R++C))).length<=100000000000->
  ∃W,W.Perm (S++R)/\je W/\aO N m (A.length:Int) ((A.length+(S.length+R.length):Nat):Int) ((A.length+S.length:Nat):Int) (A++(S++(R++C)))=some (A++(W++C))
 |_,_,0,h,_,_,_,_=>absurd h (aah _)
 |[],S,m+1,hm,hs,h0,hN,hL=>by
  refine⟨S,by simp,hs,?_⟩;show aK N (aO N m) _ _ _ _=_;unfold aK;rw[aD (decide_eq_false (by simp))];rfl
 |x::R,S,m+1,hm,hs,h0,hN,hL=>by
  have lr:(x::R).length=R.length+1:=rfl;rw[lr]at hm hN;have hlen:(A++(S++(x::R++C))).length=A.length+(S.length+(R.length+1+C.length)):=by simp only[ε,aab]
  rw[hlen]at hL;obtain⟨W,w1,w2,w3⟩:=L3 (i:=((A.length+S.length:Nat):Int)) (by omega) (N:=N) (rec4:=aO N m) (A:=A) (C:=R++C) (b:=((A.length+(S.length+(x::R).length):Nat):Int)) (x:=x) S.length S [] N rfl (by omega) (by simpa using hs) (fun s h=>by cases h) (by simp only[ε,aab,aaC];omega);have wl:W.length=S.length+1:=by rw[w1.length_eq];simp
  obtain⟨W',v1,v2,v3⟩:=QQ (N:=N) (A:=A) (C:=C) R W m (by omega) w2 (by omega) (by omega) (by simp only[ε];omega);refine⟨W',v1.trans (((w1.append_right R)).trans (by simp)),v2,?_⟩;show aK N (aO N m) _ _ _ _=_;unfold aK;rw[aE (decide_eq_true (by rw[lr];omega)),aG];refine Eq.trans ?_ (w3.trans ?_)
  ·rfl
  ·rw[wl]at v3;rw[lr,<-v3,show((A.length+S.length:Nat):Int)+1=((A.length+(S.length+1):Nat):Int) by omega,show S.length+(R.length+1)=S.length+1+R.length by omega]
theorem bFk(hN:U.length<N)(h0:0<U.length)(hL:(A++(U++C)).length<=100000000000):∃W,W.Perm U/\je W/\aM N (A.length:Int) ((A.length+U.length:Nat):Int) (A++(U++C))=some (A++(W++C)):=by
 cases U with
 |nil=>cases h0
 |cons x R=>
  have lr:(x::R).length=R.length+1:=rfl;have hlen:(A++(x::R++C)).length=A.length+(R.length+1+C.length):=by simp only[ε,aab]
  obtain⟨W,w1,w2,w3⟩:=QQ (N:=N) (A:=A) (C:=C) R [x] N (by omega) (acZ ..) (Nat.zero_lt_succ 0) (by show 1+R.length<N;omega) (by simp only[ε,aab,aaC];omega);refine⟨W,w1,w2,?_⟩;unfold aM;rw[aI (by omega) (by omega),aG];rw[show([x]:List Vr).length=1 from rfl,show 1+R.length=R.length+1 by omega]at w3;exact w3
theorem Dn(h:a+b<=4000000000000):δ .i64 ((δ .u64 ((a:Int)+(b:Int)))/(2^1))=(((a+b)/2:Nat):Int):=by
 have e:(2:Int)^1=2:=by decide
 rw[kC (by omega) (by omega),e,Dz (by omega) (by omega)];omega
theorem bPr(h:je l)(hij:i<j)(hx:l[i]?=some x)(hy:l[j]?=some y):ju x y:=by obtain⟨hi,rfl⟩:=χ.1 hx;obtain⟨hj,rfl⟩:=χ.1 hy;exact List.pairwise_iff_getElem.1 h i j hi hj hij
theorem Iw(x:Vr):ju x x:=by unfold ju ik;omega
theorem uP(h:je l)(hij:i<=j)(hx:l[i]?=some x)(hy:l[j]?=some y):ju x y:=by
 rcases Nat.lt_or_ge i j with h1|h1
 ·exact bPr h h1 hx hy
 ·have:i=j:=by omega
  subst this;rw[hx]at hy;cases hy;exact Iw x
theorem Rn:∀(V R:List Vr) (m:Nat) (A:List Vr) (u:Vr) (i:Int),i=((A.length+1+V.length:Nat):Int)->V.length<m->(A++u::(V++R)).length<=1000000000000->
  cG m i (A.length:Int) (A++u::(V++R))=some (A++(V++u::R))
 |_,_,0,_,_,_,_,h,_=>absurd h (aah _)
 |[],R,m+1,A,u,i,hi,hm,hL=>by
  show bJ (cG m) _ _ _=_;unfold bJ;have hlen:(A++u::([]++R)).length=A.length+(R.length+1):=by simp
  have hi:i=((A.length+1:Nat):Int):=hi;rw[aI (by omega) (by omega),aD (decide_eq_false (by omega))];rfl
 |v::V,R,m+1,A,u,i,hi,hm,hL=>by
  show bJ (cG m) _ _ _=_;unfold bJ;have lv:(v::V).length=V.length+1:=rfl;rw[lv]at hi hm;have hlen:(A++u::(v::V++R)).length=A.length+(V.length+1+R.length+1):=by simp only[ε,aab]
  rw[hlen]at hL;have g1:(A++u::(v::V++R))[A.length]?=some u:=gW A u _;have r2:A++u::(v::V++R)=(A++[u])++v::(V++R):=by simp
  have l2:(A++[u]).length=A.length+1:=by rw[ε];rfl
  have g2:(A++u::(v::V++R))[A.length+1]?=some v:=by rw[r2,<-l2];exact gW _ v _
  have e1:(A.length:Int)+1=((A.length+1:Nat):Int):=by omega
  rw[aI (by omega) (by omega),aE (decide_eq_true (by omega)),e1,aI (by omega) (by omega),aI (by omega) (by omega),aB (by omega),aB (by rw[hlen];omega),π,fO g2,aB (by omega),aB (by rw[hlen];omega),π,fO g1,aB (by omega),aB (by rw[hlen];omega),fO g1,aB (by omega),aB (by rw[hlen];omega)];have s1:(A++u::(v::V++R)).set A.length v=A++v::(v::V++R):=wV A u _ v;have r3:A++v::(v::V++R)=(A++[v])++v::(V++R):=by simp
  have l3:(A++[v]).length=A.length+1:=by rw[ε];rfl
  have g3:(A++v::(v::V++R))[A.length+1]?=some v:=by rw[r3,<-l3];exact gW _ v _
  have s2:(A++v::(v::V++R)).set (A.length+1) u=(A++[v])++u::(V++R):=by rw[r3,<-l3,wV]
  show cw ((A++u::(v::V++R)).set A.length v) _ _=_;rw[s1,fO g3,aI (by omega) (by omega),s2,kE (by simp only[ε,aab,aaC];omega)];have:=Rn V R m (A++[v]) u i (by rw[l3];omega) (by omega) (by simp only[ε,aab,aaC];omega);rw[l3]at this;refine this.trans ?_;simp
theorem ON:∀(n:Nat) (U:List Vr) (m:Nat) (A R:List Vr) (v:Vr) (i:Int),U.length=n->i=(A.length:Int)->n<m->(A++(U++v::R)).length<=1000000000000->
  cH m i ((A.length+n:Nat):Int) (A++(U++v::R))=some (A++(v::U++R))
 |_,_,0,_,_,_,_,_,_,h,_=>absurd h (aah _)
 |0,U,m+1,A,R,v,i,hl,hi,hm,hL=>by
  have:U=[]:=aas.1 hl;subst this;show bH (cH m) _ _ _=_;unfold bH;rw[aD (decide_eq_false (by omega))];rfl
 |n+1,U,m+1,A,R,v,i,hl,hi,hm,hL=>by
  obtain⟨S,y,rfl⟩:∃S y,U=S++[y]:=by
   rcases acy U with rfl|⟨S,y,rfl⟩
   ·cases hl
   ·exact⟨S,y,acz⟩
  have hn:S.length=n:=by rw[ε]at hl;exact Nat.succ.inj hl
  have hlen:(A++(S++[y]++v::R)).length=A.length+(n+1+(R.length+1)):=by rw[ε,ε,ε,hn];rfl
  rw[hlen]at hL;have r1:A++(S++[y]++v::R)=(A++S++[y])++v::R:=by simp
  have r2:A++(S++[y]++v::R)=(A++S)++y::(v::R):=by simp
  have l1:(A++S++[y]).length=A.length+(n+1):=by rw[ε,ε,hn];rfl
  have l2:(A++S).length=A.length+n:=by rw[ε,hn]
  have g1:(A++(S++[y]++v::R))[A.length+(n+1)]?=some v:=by rw[r1,<-l1];exact gW _ v _
  have g2:(A++(S++[y]++v::R))[A.length+n]?=some y:=by rw[r2,<-l2];exact gW _ y _
  have e1:((A.length+(n+1):Nat):Int)-1=((A.length+n:Nat):Int):=by omega
  show bH (cH m) _ _ _=_;unfold bH;rw[aE (decide_eq_true (by omega)),aI (by omega) (by omega),aI (by omega) (by omega),e1,aB (by omega),aB (by rw[hlen];omega),π,fO g2,aB (by omega),aB (by rw[hlen];omega),π,fO g1,aB (by omega),aB (by rw[hlen];omega),fO g1,aB (by omega),aB (by rw[hlen];omega)];have s1:(A++(S++[y]++v::R)).set (A.length+(n+1)) y=(A++S++[y])++y::R:=by rw[r1,<-l1,wV]
  have r3:(A++S++[y])++y::R=(A++S)++y::(y::R):=by simp
  have s2:((A++S++[y])++y::R).set (A.length+n) v=A++(S++v::(y::R)):=by rw[r3,<-l2,wV];simp
  have g3:((A++S++[y])++y::R)[A.length+n]?=some y:=by rw[r3,<-l2];exact gW _ y _
  show cw ((A++(S++[y]++v::R)).set (A.length+(n+1)) y) _ _=_;rw[s1,fO g3,aI (by omega) (by omega),s2,kE (by simp only[ε,aab,aaC];omega)];have:=ON n S m A (y::R) v i hn hi (by omega) (by simp only[ε,aab];omega);refine this.trans ?_;simp
theorem GL{N:Nat}{A V C:List Vr}{u:Vr}(hs:je V)(hN:V.length<N)(hL:(A++u::(V++C)).length<=100000000000):∀(m p q:Nat),q-p<m->p<=q->q<=V.length->(∀k x,k<p->V[k]?=some x->ik x u)->(∀k x,q<=k->V[k]?=some x->¬ik x u)->
  ∃V1 V2,V=V1++V2/\(∀x∈V1,ik x u)/\(∀x∈V2,¬ik x u)/\dE N m (A.length:Int) ((A.length+1+p:Nat):Int) ((A.length+1+q:Nat):Int) (A++u::(V++C))=some (A++(V1++u::(V2++C)))
 |0,_,_,h,_,_,_,_=>absurd h (aah _)
 |m+1,p,q,hm,hpq,hq,h1,h2=>by
  show∃V1 V2,_/\_/\_/\dF N (dE N m) _ _ _ _=_;unfold dF;have hlen:(A++u::(V++C)).length=A.length+(V.length+C.length+1):=by simp only[ε,aab]
  rw[hlen]at hL;by_cases hlt:p<q
  ·have hmid:(A.length+1+p+(A.length+1+q))/2=A.length+1+(p+q)/2:=by omega
   have hk:(p+q)/2<V.length:=by omega
   have g1:(A++u::(V++C))[A.length+1+(p+q)/2]?=some V[(p+q)/2]:=by rw[aam (by omega),show A.length+1+(p+q)/2-A.length=(p+q)/2+1 by omega,List.getElem?_cons_succ,aak hk,dV]
   have g0:V[(p+q)/2]?=some V[(p+q)/2]:=dV hk;have g2:(A++u::(V++C))[A.length]?=some u:=gW A u _;generalize V[(p+q)/2]=h at g0 g1;rw[aE (decide_eq_true (by omega)),aI (by omega) (by omega),Dn (by omega),hmid,aB (by omega),aB (by rw[hlen];omega),π,fO g1,aB (by omega),aB (by rw[hlen];omega),π,fO g2];rw[DG,aC];have ho:=D1 (x:=h) (y:=u);by_cases hc:ik h u
   ·rw[decide_eq_true hc]at ho;rw[aE ho,aI (by omega) (by omega),aG,show((A.length+1+(p+q)/2:Nat):Int)+1=((A.length+1+((p+q)/2+1):Nat):Int) by omega];exact GL hs hN (by rw[hlen];exact hL) m _ q (by omega) (by omega) hq (fun k x hk hx=>by
     have:=uP hs (show k<=(p+q)/2 by omega) hx g0;unfold ju at this;unfold ik at*;omega) h2
   ·rw[decide_eq_false hc]at ho;rw[aD ho,aG];exact GL hs hN (by rw[hlen];exact hL) m p _ (by omega) (by omega) (by omega) h1 (fun k x hk hx=>by
     have:=uP hs hk g0 hx;unfold ju at this;unfold ik at*;omega)
  ·have hpe:p=q:=by omega
   subst hpe;have hl1:(V.take p).length=p:=by rw[aaq];omega
   rw[aD (decide_eq_false (by omega)),aG];refine⟨V.take p,V.drop p,(aa8 _ _).symm,fun x hx=>?_,fun x hx=>?_,?_⟩
   ·obtain⟨k,hk⟩:=aaK hx;have hkp:k<p:=by have:=(χ.1 hk).1;omega
    rw[aaH hkp]at hk;exact h1 k x hkp hk
   ·obtain⟨k,hk⟩:=aaK hx;rw[abe]at hk;exact h2 _ x (by omega) hk
   ·have:=Rn (V.take p) (V.drop p++C) N A u ((A.length+1+p:Nat):Int) (by rw[hl1]) (by omega) (by simp only[ε,aab,aaz,hl1];omega);rw[<-ν (V.take p),aa8]at this;exact this
theorem nc{N:Nat}{A U C:List Vr}{v:Vr}(hs:je U)(hN:U.length<N)(hL:(A++(U++v::C)).length<=100000000000):∀(m p q:Nat),q-p<m->p<=q->q<=U.length->(∀k x,k<p->U[k]?=some x->¬ik v x)->(∀k x,q<=k->U[k]?=some x->ik v x)->
  ∃U1 U2,U=U1++U2/\(∀x∈U1,¬ik v x)/\(∀x∈U2,ik v x)/\dK N m ((A.length+U.length:Nat):Int) ((A.length+p:Nat):Int) ((A.length+q:Nat):Int) (A++(U++v::C))=some (A++(U1++v::(U2++C)))
 |0,_,_,h,_,_,_,_=>absurd h (aah _)
 |m+1,p,q,hm,hpq,hq,h1,h2=>by
  show∃U1 U2,_/\_/\_/\dI N (dK N m) _ _ _ _=_;unfold dI;have hlen:(A++(U++v::C)).length=A.length+(U.length+(C.length+1)):=by simp only[ε,aab]
  rw[hlen]at hL;by_cases hlt:p<q
  ·have hmid:(A.length+p+(A.length+q))/2=A.length+(p+q)/2:=by omega
   have hk:(p+q)/2<U.length:=by omega
   have g1:(A++(U++v::C))[A.length+(p+q)/2]?=some U[(p+q)/2]:=by rw[aam (by omega),show A.length+(p+q)/2-A.length=(p+q)/2 by omega,aak hk,dV]
   have g0:U[(p+q)/2]?=some U[(p+q)/2]:=dV hk;have g2:(A++(U++v::C))[A.length+U.length]?=some v:=by have:=gW (A++U) v C;rw[ε,ν]at this;exact this
   generalize U[(p+q)/2]=h at g0 g1;rw[aE (decide_eq_true (by omega)),aI (by omega) (by omega),Dn (by omega),hmid,aB (by omega),aB (by rw[hlen];omega),π,fO g2,aB (by omega),aB (by rw[hlen];omega),π,fO g1];rw[DG,aC];have ho:=D1 (x:=v) (y:=h);by_cases hc:ik v h
   ·rw[decide_eq_true hc]at ho;rw[ho,aaF,aD rfl,aG];exact nc hs hN (by rw[hlen];exact hL) m p _ (by omega) (by omega) (by omega) h1 (fun k x hk hx=>by
     have:=uP hs hk g0 hx;unfold ju at this;unfold ik at*;omega)
   ·rw[decide_eq_false hc]at ho;rw[ho,abk,aE rfl,aI (by omega) (by omega),aG,show((A.length+(p+q)/2:Nat):Int)+1=((A.length+((p+q)/2+1):Nat):Int) by omega];exact nc hs hN (by rw[hlen];exact hL) m _ q (by omega) (by omega) hq (fun k x hk hx=>by
     have:=uP hs (show k<=(p+q)/2 by omega) hx g0;unfold ju at this;unfold ik at*;omega) h2
  ·have hpe:p=q:=by omega
   subst hpe;have hl1:(U.drop p).length=U.length-p:=aaz ..;have hl2:(U.take p).length=p:=by rw[aaq];omega
   rw[aD (decide_eq_false (by omega)),aG];refine⟨U.take p,U.drop p,(aa8 _ _).symm,fun x hx=>?_,fun x hx=>?_,?_⟩
   ·obtain⟨k,hk⟩:=aaK hx;have hkp:k<p:=by have:=(χ.1 hk).1;omega
    rw[aaH hkp]at hk;exact h1 k x hkp hk
   ·obtain⟨k,hk⟩:=aaK hx;rw[abe]at hk;exact h2 _ x (by omega) hk
   ·have:=ON (U.length-p) (U.drop p) N (A++U.take p) C v ((A.length+p:Nat):Int) hl1 (by rw[ε,hl2]) (by omega) (by simp only[ε,aab,hl1,hl2];omega);rw[ε,hl2,show A.length+p+(U.length-p)=A.length+U.length by omega,ν A,<-ν (U.take p),aa8]at this;refine this.trans ?_;simp
theorem EX{τ β:Type}{p q:Prop}[Decidable p][Decidable q]{xs:List α}(mk:Bool->τ){F:τ->Option β}:bj (bk (decide p) (bf xs.length xs (some (mk (decide q)))) (bf xs.length xs (some (mk false)))) F=F (mk (decide (p/\q))):=by
 by_cases hp:p
 ·rw[aE (decide_eq_true hp),aG,aC];congr 2;exact decide_eq_decide.2 ⟨fun h=>⟨hp,h⟩,fun h=>h.2⟩
 ·rw[aD (decide_eq_false hp),aG,aC];congr 2;exact(decide_eq_false fun h=>hp h.1).symm
abbrev Hr:=Nat->Int->Int->Int->List Vr->Option (List Vr)
abbrev PV(N:Nat)(G:Hr)(L T:Nat):Prop:=∀A U V C:List Vr,0<U.length->0<V.length->U.length+V.length<L->je U->je V->(A++(U++(V++C))).length=T->∃W,W.Perm (U++V)/\je W/\G N (A.length:Int) ((A.length+U.length:Nat):Int) ((A.length+U.length+V.length:Nat):Int) (A++(U++(V++C)))=some (A++(W++C))
theorem Sd{G:Hr}{rec38:Int->Int->Int->Int->Int->Int->Int->Int->List Vr->Option (List Vr)}{U1 X V2:List Vr}{n p:Int}
  (hn:n-((A.length+U1.length:Nat):Int)=((A.length+U1.length+X.length+Y.length:Nat):Int)) (hnb:n<=1000000000000) (hT:(A++(U1++(X++(Y++(V2++C))))).length=T) (hTb:T<=100000000000) (hN:T<N)
  (hU:je (U1++X)) (hV:je (Y++V2)) (hc1:∀u∈U1,∀v∈V2,ju u v) (hc2:∀y∈Y,∀x∈X,ju y x) (hl:0<U1.length+Y.length) (hr:0<X.length+V2.length)
  (hG:PV N G (U1.length+X.length+Y.length+V2.length) T):
  ∃W,W.Perm (U1++X++(Y++V2))/\je W/\aR N G rec38 (A.length:Int) ((A.length+U1.length+X.length:Nat):Int) ((A.length+U1.length+X.length+Y.length+V2.length:Nat):Int) ((A.length+U1.length+Y.length:Nat):Int) n ((A.length+U1.length:Nat):Int) ((A.length+U1.length:Nat):Int) p (A++(U1++(X++(Y++(V2++C)))))=some (A++(W++C)):=by
 unfold aR;have hlen:∀(a b c d e f:List Vr),(a++(b++(c++(d++(e++f))))).length=a.length+(b.length+(c.length+(d.length+(e.length+f.length)))):=fun a b c d e f=>by simp only[ε]
 have hT':=hT;rw[hlen]at hT';have hU':=abl.1 hU;have hV':=abl.1 hV;rw[aD (decide_eq_false (by omega)),aI (by omega) (by omega),hn];have h1:∀(F:Int×Int×Int×Int×Int×List Vr->Option (List Vr)),(bj (bj (bk (decide (((A.length+U1.length:Nat):Int)<((A.length+U1.length+X.length:Nat):Int))) (bf ((A++(U1++(X++(Y++(V2++C)))))).length ((A++(U1++(X++(Y++(V2++C)))))) (some ((A.length:Int),((A.length+U1.length+X.length:Nat):Int),((A.length+U1.length+X.length+Y.length+V2.length:Nat):Int),((A.length+U1.length+Y.length:Nat):Int),((A.length+U1.length:Nat):Int),((A.length+U1.length+X.length+Y.length:Nat):Int),decide (((A.length+U1.length+X.length:Nat):Int)<((A.length+U1.length+X.length+Y.length:Nat):Int)),(A++(U1++(X++(Y++(V2++C)))))))) (bf ((A++(U1++(X++(Y++(V2++C)))))).length ((A++(U1++(X++(Y++(V2++C)))))) (some ((A.length:Int),((A.length+U1.length+X.length:Nat):Int),((A.length+U1.length+X.length+Y.length+V2.length:Nat):Int),((A.length+U1.length+Y.length:Nat):Int),((A.length+U1.length:Nat):Int),((A.length+U1.length+X.length+Y.length:Nat):Int),false,(A++(U1++(X++(Y++(V2++C))))))))) fun w51=>bk (w51.2.2.2.2.2.2.1) (bf (w51.2.2.2.2.2.2.2.length) (w51.2.2.2.2.2.2.2) (bj (cE N w51.2.2.2.2.1 w51.2.1 w51.2.2.2.2.2.1 w51.2.2.2.2.2.2.2) fun v52=>bf (w51.2.2.2.2.2.2.2.length) (v52) (some (w51.1,w51.2.2.1,w51.2.2.2.1,w51.2.2.2.2.1,w51.2.2.2.2.2.1,v52)))) (bf (w51.2.2.2.2.2.2.2.length) (w51.2.2.2.2.2.2.2) (some (w51.1,w51.2.2.1,w51.2.2.2.1,w51.2.2.2.2.1,w51.2.2.2.2.2.1,w51.2.2.2.2.2.2.2)))) F)=F ((A.length:Int),((A.length+U1.length+X.length+Y.length+V2.length:Nat):Int),((A.length+U1.length+Y.length:Nat):Int),((A.length+U1.length:Nat):Int),((A.length+U1.length+X.length+Y.length:Nat):Int),A++(U1++(Y++(X++(V2++C))))):=fun F=>by
  rw[EX (mk:=fun c=>((A.length:Int),((A.length+U1.length+X.length:Nat):Int),((A.length+U1.length+X.length+Y.length+V2.length:Nat):Int),((A.length+U1.length+Y.length:Nat):Int),((A.length+U1.length:Nat):Int),((A.length+U1.length+X.length+Y.length:Nat):Int),c,(A++(U1++(X++(Y++(V2++C)))))))];dsimp only;by_cases hxy:0<X.length/\0<Y.length
  ·rw[aE (decide_eq_true (by omega)),aG];have:=bOr (N:=N) (A:=A++U1) (U:=X) (V:=Y) (C:=V2++C) hxy.1 hxy.2 (by omega) (by simp only[ε];omega);rw[ε,ν,ν]at this;rw[this,aC,kE (by rw[hlen,hlen];omega),aC]
  ·rw[aD (decide_eq_false (by omega)),aG,aC];have:X=[]\/Y=[]:=by
    rcases aba X.length with h|h
    ·exact .inl (aas.1 h)
    ·exact .inr (aas.1 (by omega))
   rcases this with rfl|rfl<;>rfl
 rw[h1];dsimp only;have h2:∃W1,W1.Perm (U1++Y)/\je W1/\∀(F:Int×Int×Int×List Vr->Option (List Vr)),(bj (bj (bk (decide ((A.length:Int)<((A.length+U1.length:Nat):Int))) (bf ((A++(U1++(Y++(X++(V2++C)))))).length ((A++(U1++(Y++(X++(V2++C)))))) (some ((A.length:Int),((A.length+U1.length+X.length+Y.length+V2.length:Nat):Int),((A.length+U1.length+Y.length:Nat):Int),((A.length+U1.length:Nat):Int),((A.length+U1.length+X.length+Y.length:Nat):Int),decide (((A.length+U1.length:Nat):Int)<((A.length+U1.length+Y.length:Nat):Int)),(A++(U1++(Y++(X++(V2++C)))))))) (bf ((A++(U1++(Y++(X++(V2++C)))))).length ((A++(U1++(Y++(X++(V2++C)))))) (some ((A.length:Int),((A.length+U1.length+X.length+Y.length+V2.length:Nat):Int),((A.length+U1.length+Y.length:Nat):Int),((A.length+U1.length:Nat):Int),((A.length+U1.length+X.length+Y.length:Nat):Int),false,(A++(U1++(Y++(X++(V2++C))))))))) fun w54=>bk (w54.2.2.2.2.2.1) (bf (w54.2.2.2.2.2.2.length) (w54.2.2.2.2.2.2) (bj (G N w54.1 w54.2.2.2.1 w54.2.2.1 w54.2.2.2.2.2.2) fun v55=>bf (w54.2.2.2.2.2.2.length) (v55) (some (w54.2.1,w54.2.2.1,w54.2.2.2.2.1,v55)))) (bf (w54.2.2.2.2.2.2.length) (w54.2.2.2.2.2.2) (some (w54.2.1,w54.2.2.1,w54.2.2.2.2.1,w54.2.2.2.2.2.2)))) F)=F (((A.length+U1.length+X.length+Y.length+V2.length:Nat):Int),((A.length+U1.length+Y.length:Nat):Int),((A.length+U1.length+X.length+Y.length:Nat):Int),A++(W1++(X++(V2++C)))):=by
  by_cases hc:0<U1.length/\0<Y.length
  ·obtain⟨W1,w1,w2,w3⟩:=hG A U1 Y (X++(V2++C)) hc.1 hc.2 (by omega) hU'.1 hV'.1 (by rw[<-hT,hlen,hlen];omega);have wl:W1.length=U1.length+Y.length:=by rw[w1.length_eq,ε]
   refine⟨W1,w1,w2,fun F=>?_⟩;rw[EX (mk:=fun c=>((A.length:Int),((A.length+U1.length+X.length+Y.length+V2.length:Nat):Int),((A.length+U1.length+Y.length:Nat):Int),((A.length+U1.length:Nat):Int),((A.length+U1.length+X.length+Y.length:Nat):Int),c,(A++(U1++(Y++(X++(V2++C)))))))];dsimp only;rw[aE (decide_eq_true (by omega)),aG,w3,aC,kE (by simp only[ε];omega),aC]
  ·refine⟨U1++Y,.refl _,?_,fun F=>?_⟩
   ·have:U1=[]\/Y=[]:=by
     rcases aba U1.length with h|h
     ·exact .inl (aas.1 h)
     ·exact .inr (aas.1 (by omega))
    rcases this with rfl|rfl
    ·exact hV'.1
    ·rw[aac];exact hU'.1
   ·rw[EX (mk:=fun c=>((A.length:Int),((A.length+U1.length+X.length+Y.length+V2.length:Nat):Int),((A.length+U1.length+Y.length:Nat):Int),((A.length+U1.length:Nat):Int),((A.length+U1.length+X.length+Y.length:Nat):Int),c,(A++(U1++(Y++(X++(V2++C)))))))];dsimp only;rw[aD (decide_eq_false (by omega)),aG,aC,ν]
 obtain⟨W1,w1,w2,h2⟩:=h2;have wl:W1.length=U1.length+Y.length:=by rw[w1.length_eq,ε]
 rw[h2];dsimp only;have fin:∀W2,W2.Perm (X++V2)->je W2->(W1++W2).Perm (U1++X++(Y++V2))/\je (W1++W2):=fun W2 p2 s2=>by
  refine⟨?_,abl.2 ⟨w2,s2,fun a ha b hb=>?_⟩⟩
  ·refine(w1.append p2).trans ?_;rw[ν,ν];refine List.Perm.append_left U1 ?_;rw[<-ν,<-ν];exact List.Perm.append_right V2 List.perm_append_comm
  ·have ha:=w1.mem_iff.1 ha;have hb:=p2.mem_iff.1 hb;rcases aaj.1 ha with h|h<;>rcases aaj.1 hb with h'|h'
   ·exact hU'.2.2 a h b h'
   ·exact hc1 a h b h'
   ·exact hc2 a h b h'
   ·exact hV'.2.2 a h b h'
 rw[EX (mk:=fun c=>(((A.length+U1.length+X.length+Y.length+V2.length:Nat):Int),((A.length+U1.length+Y.length:Nat):Int),((A.length+U1.length+X.length+Y.length:Nat):Int),c,A++(W1++(X++(V2++C)))))];dsimp only;by_cases hc:0<X.length/\0<V2.length
 ·obtain⟨W2,p1,p2,p3⟩:=hG (A++W1) X V2 C hc.1 hc.2 (by omega) hU'.2.1 hV'.2.1 (by rw[<-hT,hlen];simp only[ε];omega);have pl:W2.length=X.length+V2.length:=by rw[p1.length_eq,ε]
  rw[ε,wl,ν,ν,show A.length+(U1.length+Y.length)=A.length+U1.length+Y.length by omega,show A.length+U1.length+Y.length+X.length=A.length+U1.length+X.length+Y.length by omega]at p3;refine⟨W1++W2,(fin W2 p1 p2).1,(fin W2 p1 p2).2,?_⟩;rw[aE (decide_eq_true (by omega)),aG,p3,aC,ν]
 ·have hs2:je (X++V2):=by
   have:X=[]\/V2=[]:=by
    rcases aba X.length with h|h
    ·exact .inl (aas.1 h)
    ·exact .inr (aas.1 (by omega))
   rcases this with rfl|rfl
   ·exact hV'.2.1
   ·rw[aac];exact hU'.2.1
  refine⟨W1++(X++V2),(fin _ (.refl _) hs2).1,(fin _ (.refl _) hs2).2,?_⟩;rw[aD (decide_eq_false (by omega))];simp only[ν]
theorem FT{N:Nat}{G:Hr}{a m b mid n:Int}{p s0 r0:Nat}{xs:List Vr}(hL:xs.length<=100000000000)
  (hb:∀c,s0<=c->c<r0->c<xs.length/\c<=p/\p-c<xs.length)
  (hm:∀c k x y x' y',s0<=k->k<=c->c<r0->xs[c]?=some x->xs[p-c]?=some y->xs[k]?=some x'->xs[p-k]?=some y'->ju x' x/\ju y y') (hr0:r0<=100000000000) (hpb:p<=1000000000000):∀(fuel s r:Nat),r-s<fuel->s0<=s->s<=r->r<=r0->
  (∀k x y,s0<=k->k<s->xs[k]?=some x->xs[p-k]?=some y->ju x y)->(∀k x y,r<=k->k<r0->xs[k]?=some x->xs[p-k]?=some y->ik y x)->
  ∃f st:Nat,s0<=st/\st<=r0/\(∀k x y,s0<=k->k<st->xs[k]?=some x->xs[p-k]?=some y->ju x y)/\(∀k x y,st<=k->k<r0->xs[k]?=some x->xs[p-k]?=some y->ik y x)/\
   aL N G fuel a m b mid n (s:Int) (r:Int) (p:Int) xs=aR N G (aL N G f) a m b mid n (st:Int) (st:Int) (p:Int) xs
 |0,_,_,h,_,_,_,_,_=>absurd h (aah _)
 |fuel+1,s,r,hf,hs,hsr,hr,h1,h2=>by
  by_cases hlt:s<r
  ·obtain⟨b1,b2,b3⟩:=hb ((s+r)/2) (by omega) (by omega);have g1:xs[(s+r)/2]?=some xs[(s+r)/2]:=dV b1;have g2:xs[p-(s+r)/2]?=some xs[p-(s+r)/2]:=dV b3;have step:aL N G (fuel+1) a m b mid n (s:Int) (r:Int) (p:Int) xs=bk (!decide (ik xs[p-(s+r)/2] xs[(s+r)/2])) (aL N G fuel a m b mid n (((s+r)/2+1:Nat):Int) (r:Int) (p:Int) xs) (aL N G fuel a m b mid n (s:Int) (((s+r)/2:Nat):Int) (p:Int) xs):=by
    show aR N G (aL N G fuel) _ _ _ _ _ _ _ _ _=_;unfold aR;have ep:(p:Int)-(((s+r)/2:Nat):Int)=((p-(s+r)/2:Nat):Int):=by omega
    rw[aE (decide_eq_true (by omega)),aI (by omega) (by omega),Dn (by omega),ep,aI (by omega) (by omega),aB (by omega),aB (by omega),π,fO g2,aB (by omega),aB (by omega),π,fO g1];rw[DG,aC,D1,aI (by omega) (by omega),aG,aG,show(((s+r)/2:Nat):Int)+1=(((s+r)/2+1:Nat):Int) by omega]
   rw[step];by_cases hc:ik xs[p-(s+r)/2] xs[(s+r)/2]
   ·rw[decide_eq_true hc,aaF,aD rfl];exact FT hL hb hm hr0 hpb fuel s _ (by omega) hs (by omega) (by omega) h1 (fun k x y hk hk2 hx hy=>by
     obtain⟨b1',b2',b3'⟩:=hb k (by omega) hk2;have:=hm k ((s+r)/2) x y _ _ (by omega) (by omega) hk2 hx hy g1 g2;unfold ju at this;unfold ik at*;omega)
   ·rw[decide_eq_false hc,abk,aE rfl];exact FT hL hb hm hr0 hpb fuel _ r (by omega) (by omega) (by omega) hr (fun k x y hk hk2 hx hy=>by
     have:=hm ((s+r)/2) k _ _ x y hk (by omega) (by omega) g1 g2 hx hy;unfold ju at*;unfold ik at*;omega) h2
  ·have:s=r:=by omega
   subst this;exact⟨fuel,s,hs,hr,h1,h2,rfl⟩
theorem FV{l:List α}(h:i<=l.length):∃a b,l=a++b/\a.length=i:=⟨l.take i,l.drop i,(aa8 _ _).symm,by rw[aaq];omega⟩
theorem Hs:∀(L N T:Nat),T+L<N->T<=100000000000->PV N aw L T
 |0,_,_,_,_=>fun A U V C h1 h2 h3=>absurd h3 (aah _)
 |L+1,N,T,hN,hT=>fun A U V C hu hv hl hsu hsv hlen=>by
  obtain⟨M,rfl⟩:∃M,N=M+1:=⟨N-1,by omega⟩;have ih:=Hs L M T (by omega) hT;show∃W,_/\_/\dY M (fun _=>aw M) _ _ _ _=_;unfold dY;have hlen':A.length+(U.length+(V.length+C.length))=T:=by rw[<-hlen];simp only[ε]
  have e1:((A.length+U.length:Nat):Int)-(A.length:Int)=(U.length:Int):=by omega
  have e2:((A.length+U.length+V.length:Nat):Int)-((A.length+U.length:Nat):Int)=(V.length:Int):=by omega
  rw[aI (by omega) (by omega),e1];by_cases hu1:U.length=1
  ·obtain⟨u,rfl⟩:=ac2.1 hu1;rw[aE (by rw[hu1];rfl),aG];obtain⟨V1,V2,rfl,p1,p2,p3⟩:=GL (N:=M) (A:=A) (C:=C) (u:=u) hsv (by omega) (by rw[show A++u::(V++C)=A++([u]++(V++C))from rfl,hlen];exact hT) M 0 V.length (by omega) (aa2 _) (me _) (fun k x h=>absurd h (aah _)) (fun k x h hx=>by
    have:=(χ.1 hx).1;omega)
   refine⟨V1++u::V2,?_,?_,?_⟩
   ·exact List.perm_middle
   ·have hp:=abl.1 hsv;refine abl.2 ⟨hp.1,aav.2 ⟨fun x hx=>p2 x hx,hp.2.1⟩,fun a ha b hb=>?_⟩;rcases υ.1 hb with e|hb
    ·subst e;exact EZ (p1 a ha)
    ·exact hp.2.2 a ha b hb
   ·refine p3.trans ?_;simp
  ·rw[aD (by rw[beq_eq_false_iff_ne];omega),aI (by omega) (by omega),e2];by_cases hv1:V.length=1
   ·obtain⟨v,rfl⟩:=ac2.1 hv1;rw[aE (by rw[hv1];rfl),aG];obtain⟨U1,U2,rfl,p1,p2,p3⟩:=nc (N:=M) (A:=A) (C:=C) (v:=v) hsu (by omega) (by rw[show A++(U++v::C)=A++(U++([v]++C))from rfl,hlen];exact hT) M 0 U.length (by omega) (aa2 _) (me _) (fun k x h=>absurd h (aah _)) (fun k x h hx=>by
     have:=(χ.1 hx).1;omega)
    refine⟨U1++v::U2,?_,?_,?_⟩
    ·rw[ν];exact List.Perm.append_left U1 (by rw[show v::U2=[v]++U2 from rfl];exact List.perm_append_comm)
    ·have hp:=abl.1 hsu;refine abl.2 ⟨hp.1,aav.2 ⟨fun x hx=>EZ (p2 x hx),hp.2.1⟩,fun a ha b hb=>?_⟩;rcases υ.1 hb with e|hb
     ·subst e;exact p1 a ha
     ·exact hp.2.2 a ha b hb
    ·refine p3.trans ?_;simp
   ·rw[aD (by rw[beq_eq_false_iff_ne];omega),aI (by omega) (by omega),Dn (by omega)];generalize hmid:(A.length+(A.length+U.length+V.length))/2=mid;have e3:(mid:Int)+((A.length+U.length:Nat):Int)=((mid+(A.length+U.length):Nat):Int):=by omega
    rw[aI (by omega) (by omega),e3];have ixU:∀k,k<U.length->(A++(U++(V++C)))[A.length+k]?=U[k]?:=fun k hk=>by rw[aam (by omega),show A.length+k-A.length=k by omega,aak hk]
    have ixV:∀k,k<V.length->(A++(U++(V++C)))[A.length+U.length+k]?=V[k]?:=fun k hk=>by rw[aam (by omega),aam (by omega),aak (by omega),show A.length+U.length+k-A.length-U.length=k by omega]
    obtain⟨s0,r0,c1,c2,c3,c4,c5,c6,c7,c8,hstart⟩:∃s0 r0:Nat,A.length<=s0/\s0<=r0/\r0<=A.length+U.length/\r0<=mid/\mid<=s0+V.length/\(s0=A.length\/mid=s0+V.length)/\(r0=mid\/r0=A.length+U.length)/\A.length+U.length+V.length≥mid+(A.length+U.length)-s0/\∀F:Int×Int×Int×Int×Int×Int×Int×List Vr->Option (List Vr),bj (bk (decide (((A.length+U.length:Nat):Int)>(mid:Int))) (ck .i64 (((mid+(A.length+U.length):Nat):Int)-((A.length+U.length+V.length:Nat):Int)) (bf ((A++(U++(V++C)))).length ((A++(U++(V++C)))) (some ((A.length:Int),((A.length+U.length:Nat):Int),((A.length+U.length+V.length:Nat):Int),(mid:Int),((mid+(A.length+U.length):Nat):Int),(((mid+(A.length+U.length):Nat):Int)-((A.length+U.length+V.length:Nat):Int)),(mid:Int),(A++(U++(V++C))))))) (bf ((A++(U++(V++C)))).length ((A++(U++(V++C)))) (some ((A.length:Int),((A.length+U.length:Nat):Int),((A.length+U.length+V.length:Nat):Int),(mid:Int),((mid+(A.length+U.length):Nat):Int),(A.length:Int),((A.length+U.length:Nat):Int),(A++(U++(V++C))))))) F=F ((A.length:Int),((A.length+U.length:Nat):Int),((A.length+U.length+V.length:Nat):Int),(mid:Int),((mid+(A.length+U.length):Nat):Int),(s0:Int),(r0:Int),(A++(U++(V++C)))):=by
     by_cases hc:mid<A.length+U.length
     ·refine⟨mid+(A.length+U.length)-(A.length+U.length+V.length),mid,by omega,by omega,by omega,by omega,by omega,by omega,by omega,by omega,fun F=>?_⟩;have e4:((mid+(A.length+U.length):Nat):Int)-((A.length+U.length+V.length:Nat):Int)=((mid+(A.length+U.length)-(A.length+U.length+V.length):Nat):Int):=by omega
      rw[aE (decide_eq_true (by omega)),aI (by omega) (by omega),aG,aC,e4]
     ·refine⟨A.length,A.length+U.length,by omega,by omega,by omega,by omega,by omega,by omega,by omega,by omega,fun F=>?_⟩;rw[aD (decide_eq_false (by omega)),aG,aC]
    rw[hstart];dsimp only;have ep:((mid+(A.length+U.length):Nat):Int)-1=((mid+(A.length+U.length)-1:Nat):Int):=by omega
    rw[aI (by omega) (by omega),aG,ep];have z6:(A++(U++(V++C))).length=T:=hlen;obtain⟨f,st,t1,t2,t3,t4,t5⟩:=FT (N:=M) (G:=fun _=>aw M) (a:=(A.length:Int)) (m:=((A.length+U.length:Nat):Int)) (b:=((A.length+U.length+V.length:Nat):Int)) (mid:=(mid:Int)) (n:=((mid+(A.length+U.length):Nat):Int)) (p:=mid+(A.length+U.length)-1) (s0:=s0) (r0:=r0) (xs:=A++(U++(V++C))) (by omega) (fun c h1 h2=>⟨by omega,by omega,by omega⟩) (fun c k x y x' y' h1 h2 h3 g1 g2 g3 g4=>by
     have q1:=ixU (c-A.length) (by omega);have q2:=ixU (k-A.length) (by omega);have q3:=ixV (mid+(A.length+U.length)-1-c-(A.length+U.length)) (by omega);have q4:=ixV (mid+(A.length+U.length)-1-k-(A.length+U.length)) (by omega);rw[show A.length+(c-A.length)=c by omega,g1]at q1;rw[show A.length+(k-A.length)=k by omega,g3]at q2;rw[show A.length+U.length+(mid+(A.length+U.length)-1-c-(A.length+U.length))=mid+(A.length+U.length)-1-c by omega,g2]at q3;rw[show A.length+U.length+(mid+(A.length+U.length)-1-k-(A.length+U.length))=mid+(A.length+U.length)-1-k by omega,g4]at q4;exact⟨uP hsu (by omega) q2.symm q1.symm,uP hsv (by omega) q3.symm q4.symm⟩) (by omega) (by omega) M s0 r0 (by omega) (me _) (by omega) (me _) (fun k x y h1 h2=>absurd h1 (by omega)) (fun k x y h1 h2=>absurd h1 (by omega))
    rw[t5];obtain⟨U1,X,rfl,l1⟩:=FV (l:=U) (i:=st-A.length) (by omega);obtain⟨Y,V2,rfl,l2⟩:=FV (l:=V) (i:=mid-st) (by omega);have lu:(U1++X).length=U1.length+X.length:=ε;have lv:(Y++V2).length=Y.length+V2.length:=ε;have hc1:∀u∈U1,∀v∈V2,ju u v:=fun u hu v hv=>by
     obtain⟨i,hi⟩:=aaK hu;obtain⟨j,hj⟩:=aaK hv;have li:=(χ.1 hi).1;have lj:=(χ.1 hj).1;have hi':(U1++X)[i]?=some u:=by rw[aak li];exact hi
     have hj':(Y++V2)[Y.length+j]?=some v:=by rw[aam (by omega),show Y.length+j-Y.length=j by omega];exact hj
     have hst:s0<st:=by omega
     have gx:(U1++X)[st-1-A.length]?=some ((U1++X)[st-1-A.length]'(by omega)):=dV (by omega);have gy:(Y++V2)[Y.length]?=some ((Y++V2)[Y.length]'(by omega)):=dV (by omega);have gx':=ixU (st-1-A.length) (by omega);have gy':=ixV Y.length (by omega);rw[gx,show A.length+(st-1-A.length)=st-1 by omega]at gx';rw[gy,show A.length+(U1++X).length+Y.length=mid+(A.length+(U1++X).length)-1-(st-1) by omega]at gy';exact vT (uP hsu (by omega) hi' gx) (vT (t3 (st-1) _ _ (by omega) (by omega) gx' gy') (uP hsv (by omega) gy hj'))
    have hc2:∀y∈Y,∀x∈X,ju y x:=fun y hy x hx=>by
     obtain⟨i,hi⟩:=aaK hy;obtain⟨j,hj⟩:=aaK hx;have li:=(χ.1 hi).1;have lj:=(χ.1 hj).1;have hi':(Y++V2)[i]?=some y:=by rw[aak li];exact hi
     have hj':(U1++X)[U1.length+j]?=some x:=by rw[aam (by omega),show U1.length+j-U1.length=j by omega];exact hj
     have hst:st<r0:=by omega
     have gx:(U1++X)[U1.length]?=some ((U1++X)[U1.length]'(by omega)):=dV (by omega);have gy:(Y++V2)[Y.length-1]?=some ((Y++V2)[Y.length-1]'(by omega)):=dV (by omega);have gx':=ixU U1.length (by omega);have gy':=ixV (Y.length-1) (by omega);rw[gx,show A.length+U1.length=st by omega]at gx';rw[gy,show A.length+(U1++X).length+(Y.length-1)=mid+(A.length+(U1++X).length)-1-st by omega]at gy';exact vT (uP hsv (by omega) hi' gy) (vT (EZ (t4 st _ _ (me _) (by omega) gx' gy')) (uP hsu (by omega) gx hj'))
    have:=Sd (N:=M) (T:=T) (G:=fun _=>aw M) (rec38:=aL M (fun _=>aw M) f) (A:=A) (U1:=U1) (X:=X) (Y:=Y) (V2:=V2) (C:=C) (n:=((mid+(A.length+(U1++X).length):Nat):Int)) (p:=((mid+(A.length+(U1++X).length)-1:Nat):Int)) (by omega) (by omega) (by rw[<-hlen];simp only[ν]) hT (by omega) hsu hsv hc1 hc2 (by omega) (by omega) (fun A' U' V' C' q1 q2 q3 q4 q5 q6=>ih A' U' V' C' q1 q2 (by omega) q4 q5 q6);rw[show A.length+U1.length=st by omega,show st+Y.length=mid by omega,show st+X.length=A.length+(U1++X).length by omega,show A.length+(U1++X).length+Y.length+V2.length=A.length+(U1++X).length+(Y++V2).length by omega]at this;simp only[ν]at this|-;exact this
inductive Ch (k:Nat):List Vr->Prop
 |last {R:List Vr}:R.length<=k->je R->Ch k R
 |cons {U R:List Vr}:U.length=k->je U->Ch k R->Ch k (U++R)
theorem Ch.le(h:Ch k R)(hl:R.length<=k):je R:=by
 cases h with
 |last _ h=>exact h
 |cons hu hs hr=>
  rename_i U R;rw[ε]at hl;have:R=[]:=aas.1 (by omega);subst this;rw[aac];exact hs
theorem Ch.gt(h:Ch k R)(hl:k<R.length):∃U R1,R=U++R1/\U.length=k/\je U/\Ch k R1:=by
 cases h with
 |last h _=>omega
 |cons hu hs hr=>exact⟨_,_,rfl,hu,hs,hr⟩
theorem Q7(hN:U.length<N)(h0:0<N)(hL:(A++(U++C)).length<=100000000000):∃W,W.Perm U/\je W/\aM N (A.length:Int) ((A.length+U.length:Nat):Int) (A++(U++C))=some (A++(W++C)):=by
 rcases aba U.length with h|h
 ·have:U=[]:=aas.1 h;subst this;have hlen:(A++([]++C)).length=A.length+C.length:=by simp
  refine⟨[],.refl _,.nil,?_⟩;obtain⟨M,rfl⟩:∃M,N=M+1:=⟨N-1,by omega⟩;unfold aM;rw[aI (by omega) (by omega),aG];show aK (M+1) (aO (M+1) M) _ _ _ _=_;unfold aK;rw[aD (decide_eq_false (by show¬(A.length:Int)+1<((A.length+0:Nat):Int);omega))]
 ·exact bFk hN h hL
theorem Q6{N T:Nat}(hN:4*T+100<N)(hT:T<=10000000000):∀(m:Nat) (A R:List Vr),R.length<m->(A++R).length=T->
  ∃R',R'.Perm R/\Ch 20 R'/\dR N m (T:Int) 20 (A.length:Int) ((A.length+20:Nat):Int) (A++R)=bR N N (T:Int) 20 (A++R')
 |0,_,_,h,_=>absurd h (aah _)
 |m+1,A,R,hm,hlen=>by
  show∃R',_/\_/\eG N (dR N m) _ _ _ _ _=_;unfold eG;have hl':A.length+R.length=T:=by rw[<-hlen,ε]
  by_cases h:A.length+20<=T
  ·obtain⟨U,R1,rfl,lu⟩:=FV (l:=R) (i:=20) (by omega);have lr:(U++R1).length=U.length+R1.length:=ε;obtain⟨W,w1,w2,w3⟩:=Q7 (N:=N) (A:=A) (U:=U) (C:=R1) (by omega) (by omega) (by rw[hlen];omega);have lw:W.length=20:=by rw[w1.length_eq,lu]
   obtain⟨R',r1,r2,r3⟩:=Q6 hN hT m (A++W) R1 (by omega) (by simp only[ε];omega);refine⟨W++R',w1.append r1,.cons lw w2 r2,?_⟩;rw[lu]at w3;rw[aE (decide_eq_true (by omega)),aG,w3,aC,aI (by omega) (by omega),kE (by simp only[ε];omega)];rw[ε,lw,ν,ν]at r3;rw[<-r3,show((A.length+20:Nat):Int)+20=((A.length+20+20:Nat):Int) by omega]
  ·obtain⟨W,w1,w2,w3⟩:=Q7 (N:=N) (A:=A) (U:=R) (C:=[]) (by omega) (by omega) (by rw[aac,hlen];omega);have lw:W.length=R.length:=w1.length_eq;rw[aac,aac,hl']at w3;refine⟨W,w1,.last (by omega) w2,?_⟩;rw[aD (decide_eq_false (by omega)),aG,w3,aC,kE (by simp only[ε];omega)]
theorem Mi{N T k:Nat}{rec11:Int->Int->List Vr->Option (List Vr)}(hN:4*T+100<N)(hT:T<=10000000000)(hk:0<k/\k<=T):∀(m:Nat) (A R:List Vr),R.length<m->(A++R).length=T->Ch k R->
  ∃R',R'.Perm R/\Ch (2*k) R'/\dZ N rec11 m (T:Int) (k:Int) (A.length:Int) ((A.length+2*k:Nat):Int) (A++R)=rec11 (T:Int) ((2*k:Nat):Int) (A++R')
 |0,_,_,h,_,_=>absurd h (aah _)
 |m+1,A,R,hm,hlen,hch=>by
  show∃R',_/\_/\eC N rec11 (dZ N rec11 m) _ _ _ _ _=_;unfold eC;have hl':A.length+R.length=T:=by rw[<-hlen,ε]
  have e1:(A.length:Int)+(k:Int)=((A.length+k:Nat):Int):=by omega
  have e2:(k:Int)*2=((2*k:Nat):Int):=by omega
  have e3:2*(k:Int)=((2*k:Nat):Int):=by omega
  by_cases h:A.length+2*k<=T
  ·obtain⟨U,R1,rfl,lu,su,ch1⟩:=hch.gt (by omega);have lr:(U++R1).length=U.length+R1.length:=ε;obtain⟨V,R2,rfl,lv,sv,ch2⟩:∃V R2,R1=V++R2/\V.length=k/\je V/\Ch k R2:=by
    rcases Nat.lt_or_ge k R1.length with h1|h1
    ·exact ch1.gt h1
    ·exact⟨R1,[],(aac _).symm,by omega,ch1.le h1,.last (aa2 _) .nil⟩
   have lr2:(V++R2).length=V.length+R2.length:=ε;obtain⟨W,w1,w2,w3⟩:=Hs (2*k+1) N T (by omega) (by omega) A U V R2 (by omega) (by omega) (by omega) su sv hlen;have lw:W.length=2*k:=by rw[w1.length_eq,ε];omega
   obtain⟨R',r1,r2,r3⟩:=Mi (rec11:=rec11) hN hT hk m (A++W) R2 (by omega) (by simp only[ε];omega) ch2;refine⟨W++R',(w1.append r1).trans (by rw[ν]),.cons lw w2 r2,?_⟩;rw[lu,lv,show A.length+k+k=A.length+2*k by omega]at w3;rw[aE (decide_eq_true (by omega)),e1,aI (by omega) (by omega),aG,w3,aC,e3,aI (by omega) (by omega),aI (by omega) (by omega),kE (by simp only[ε];omega)];rw[ε,lw,ν,ν]at r3;rw[<-r3,show((A.length+2*k:Nat):Int)+((2*k:Nat):Int)=((A.length+2*k+2*k:Nat):Int) by omega]
  ·rw[aD (decide_eq_false (by omega)),e1,aI (by omega) (by omega)];by_cases h2:A.length+k<T
   ·obtain⟨U,R1,rfl,lu,su,ch1⟩:=hch.gt (by omega);have lr:(U++R1).length=U.length+R1.length:=ε;obtain⟨W,w1,w2,w3⟩:=Hs (2*k+1) N T (by omega) (by omega) A U R1 [] (by omega) (by omega) (by omega) su (ch1.le (by omega)) (by rw[aac];exact hlen);have lw:W.length=U.length+R1.length:=by rw[w1.length_eq,ε]
    rw[aac,aac,lu,show A.length+k+R1.length=T by omega]at w3;refine⟨W,w1,.last (by omega) w2,?_⟩;rw[aE (decide_eq_true (by omega)),aG,w3,aC,kE (by simp only[ε];omega),aC];dsimp only;rw[e2,aI (by omega) (by omega),aG]
   ·refine⟨R,.refl _,.last (by omega) (hch.le (by omega)),?_⟩;rw[aD (decide_eq_false (by omega)),aG,aC];dsimp only;rw[e2,aI (by omega) (by omega),aG]
theorem Lz{N T:Nat}(hN:4*T+100<N)(hT:T<=10000000000):∀(m k:Nat) (R:List Vr),T-k<m->0<k->R.length=T->Ch k R->
  ∃W,W.Perm R/\je W/\bR N m (T:Int) (k:Int) R=some W
 |0,_,_,h,_,_,_=>absurd h (aah _)
 |m+1,k,R,hm,hk,hlen,hch=>by
  show∃W,_/\_/\eE N (bR N m) _ _ _=_;unfold eE;by_cases h:k<T
  ·obtain⟨R',r1,r2,r3⟩:=Mi (rec11:=bR N m) hN hT ⟨hk,by omega⟩ N [] R (by omega) hlen hch;obtain⟨W,w1,w2,w3⟩:=Lz hN hT m (2*k) R' (by omega) (by omega) (by rw[r1.length_eq,hlen]) r2;refine⟨W,w1.trans r1,w2,?_⟩;rw[aE (decide_eq_true (by omega)),aI (by omega) (by omega),aG];rw[show 2*(k:Int)=((2*k:Nat):Int) by omega];rw[show([]:List Vr).length+2*k=2*k from Nat.zero_add _]at r3;exact r3.trans w3
  ·refine⟨R,.refl _,hch.le (by omega),?_⟩;rw[aD (decide_eq_false (by omega))]
theorem WQ(hN:4*R.length+100<N)(hT:R.length<=10000000000):∃W,W.Perm R/\je W/\bO N R=some W:=by unfold bO eY;obtain⟨R',r1,r2,r3⟩:=Q6 hN hT N [] R (by omega) rfl;obtain⟨W,w1,w2,w3⟩:=Lz hN hT N 20 R' (by omega) (by omega) r1.length_eq r2;refine⟨W,w1.trans r1,w2,?_⟩;rw[aG,aG];have:=r3.trans w3;refine(congrArg (fun z=>bj z fun v2=>some v2) this).trans rfl
set_option synthInstance.maxSize 100000
set_option synthInstance.maxHeartbeats 400000
theorem QD{xs ys:List (Int×TL)}(hl:xs.length=ys.length)(hb:xs.length<=1000000000000):∀(m k:Nat),xs.length-k<m->k<=xs.length->fL m xs ys (xs.length:Int) (k:Int)=some (decide (xs.drop k=ys.drop k))
 |0,_,h,_=>absurd h (aah _)
 |m+1,k,hm,hk=>by
  show fR (fL m) _ _ _ _=_;unfold fR;by_cases h:k<xs.length
  ·have h':k<ys.length:=by omega
   have d1:xs.drop k=xs[k]::xs.drop (k+1):=aaD h;have d2:ys.drop k=ys[k]::ys.drop (k+1):=aaD h';rw[aE (r9 h),cQ (dV h),cQ (dV h'),d1,d2];have ih:=QD hl hb m (k+1) (by omega) (by omega);generalize xs[k]=x at*;generalize ys[k]=y at*;obtain⟨x1,x2,x3,x4⟩:=x;obtain⟨y1,y2,y3,y4⟩:=y;show bk (!(x1==y1&&(x2==y2&&(x3==y3&&x4==y4)))) _ _=_;by_cases he:x1=y1/\x2=y2/\x3=y3/\x4=y4
   ·obtain⟨rfl,rfl,rfl,rfl⟩:=he;rw[aD (by simp),aI (by omega) (by omega)];refine ih.trans (congrArg some (decide_eq_decide.2 ?_));simp
   ·rw[aE (by
     rw[Bool.not_eq_true'];apply Bool.eq_false_iff.2;intro hh;simp at hh;exact he hh),decide_eq_false]
    intro hh;simp at hh;exact he ⟨hh.1.1,hh.1.2.1,hh.1.2.2.1,hh.1.2.2.2⟩
  ·rw[aD (qo h),decide_eq_true];rw[aar (by omega),aar (by omega)]
theorem UP{xs:List (Int×TL)}(hN:xs.length<N)(hb:xs.length<=1000000000000):mA N xs ys=some (decide (xs=ys)):=by
 unfold mA gF;by_cases hl:xs.length=ys.length
 ·rw[aD (by rw[bne_eq_false_iff_eq];omega)];have:=QD hl hb N 0 hN (aa2 _);rw[show((0:Nat):Int)=0 from rfl]at this;rw[this,aC];rfl
 ·rw[aE (by rw[bne_iff_ne];omega),aC,decide_eq_false];intro h;rw[h]at hl;exact hl rfl
theorem Gk(hN:x.2.2.2.2.2.2.2.length<N)(hb:x.2.2.2.2.2.2.2.length<=1000000000000):iQ N x y=some (decide (x=y)):=by
 unfold iQ;rw[UP hN hb,aC];obtain⟨a1,a2,a3,a4,a5,a6,a7,a8⟩:=x;obtain⟨b1,b2,b3,b4,b5,b6,b7,b8⟩:=y;dsimp only;have key:((a1,a2,a3,a4,a5,a6,a7,a8):Vr)=(b1,b2,b3,b4,b5,b6,b7,b8)↔a8=b8/\a1=b1/\a2=b2/\a3=b3/\a4=b4/\a5=b5/\a6=b6/\a7=b7:=by simp only[Prod.mk.injEq];constructor<;>(intro h;simp[h])
 rw[decide_eq_decide.2 key];by_cases h8:a8=b8
 ·rw[decide_eq_true h8,aaF,aD rfl];by_cases h1:a1=b1
  ·rw[aE (by simpa using h1)];by_cases h2:a2=b2
   ·rw[aE (by simpa using h2)];by_cases h3:a3=b3
    ·rw[aE (by simpa using h3)];by_cases h4:a4=b4
     ·rw[aE (by simpa using h4)];by_cases h5:a5=b5
      ·rw[aE (by simpa using h5)];by_cases h6:a6=b6
       ·rw[aE (by simpa using h6),aC];congr 1;rw[Bool.eq_iff_iff];simp[h1,h2,h3,h4,h5,h6,h8]
       ·rw[aD (by simpa using h6),aC,decide_eq_false (by simp[h6])]
      ·rw[aD (by simpa using h5),aC,decide_eq_false (by simp[h5])]
     ·rw[aD (by simpa using h4),aC,decide_eq_false (by simp[h4])]
    ·rw[aD (by simpa using h3),aC,decide_eq_false (by simp[h3])]
   ·rw[aD (by simpa using h2),aC,decide_eq_false (by simp[h2])]
  ·rw[aD (by simpa using h1),aC,decide_eq_false (by simp[h1])]
 ·rw[decide_eq_false h8,abk,aE rfl,decide_eq_false (by simp[h8])]
theorem ZE(h:n<=1000000000000):cV N (n:Int)=some []:=by
 unfold cV;have e:(0-((0:Nat):Int))=0:=rfl;have e1:((n:Int)-0)=(n:Int):=by omega
 rw[aD (decide_eq_false (by omega)),e,e1,aI (by omega) (by omega),aI (by omega) (by omega)];by_cases h0:0<n
 ·rw[aE (decide_eq_true (by omega)),aB (by omega),aB (by omega),aB (by exact aa2 _)];rfl
 ·rw[aD (decide_eq_false (by omega))]
theorem IN(N m:Nat):dN N (m+1)=bK N (dN N m):=rfl
theorem Is(m:Nat):dO (m+1)=bM (dO m):=rfl
theorem bB5{a b:List Vr}(hN:3<N)(h:a.length+b.length<=100000000000):cP N [a,b]=some (a++b):=by obtain⟨M,rfl⟩:∃M,N=M+1+1+1:=⟨N-3,by omega⟩;unfold cP;have e2:((([a,b]:List (List Vr)).length:Nat):Int)=2:=rfl;have g0:([a,b]:List (List Vr))[0]?=some a:=rfl;have g1:([a,b]:List (List Vr))[1]?=some b:=rfl;have z:(0:Int)=((0:Nat):Int):=rfl;have o:(0:Int)+1=((1:Nat):Int):=rfl;have t:((1:Nat):Int)+1=2:=rfl;rw[e2];rw[IN];unfold bK;rw[aE (by decide),lM (ady 0) g0,aI (by omega) (by omega),aD (decide_eq_false (by omega)),aI (by omega) (by omega),o];rw[IN];unfold bK;rw[aE (by decide),cQ g1,aI (by omega) (by omega),aD (decide_eq_false (by omega)),aI (by omega) (by omega),t];rw[IN];unfold bK;rw[aD (by decide),show(0:Int)+((a.length:Nat):Int)+((b.length:Nat):Int)=((a.length+b.length:Nat):Int) by omega,ZE (by omega),aC,aG,e2];rw[Is];unfold bM;rw[aE (by decide),lM (ady 0) g0,aG,aB (by show(0+a.length)*80<=_;omega),aI (by omega) (by omega),aG,o];rw[Is];unfold bM;rw[aE (by decide),cQ g1,aG,aB (by show(a.length+b.length)*80<=_;omega),aI (by omega) (by omega),aG,t];rw[Is];unfold bM;rw[aD (by decide),aG];rfl
def kz:Vr->List Vr->List Vr
 |_,[]=>[]
 |c,y::r=>if y=c then kz c r else y::kz y r
def cp:List Vr->List Vr
 |[]=>[]
 |x::r=>x::kz x r
abbrev j7(N:Nat)(xs:List Vr):Prop:=∀x∈xs,x.2.2.2.2.2.2.2.length<N/\x.2.2.2.2.2.2.2.length<=1000000000000
theorem FM{N n k:Nat}(hb:n<=1000000000000):∀(R:List Vr) (m:Nat) (D J:List Vr) (c:Vr) (k2:Nat),R.length<m->1<=k2->k+k2=D.length+J.length+1->D.length+J.length+1+R.length=n->j7 N (D++(J++(c::R)))->
  bS N m (D.length:Int) (k:Int) ((n-k:Nat):Int) (k2:Int) (D++(J++(c::R)))=some (D++kz c R)
 |_,0,_,_,_,_,h,_,_,_,_=>absurd h (aah _)
 |[],m+1,D,J,c,k2,hm,h1,h2,h3,hc=>by
  show aX N (bS N m) _ _ _ _ _=_;unfold aX;have hlen:(D++(J++[c])).length=n:=by simp only[ε,aab,aaC]at*;omega
  have h3:D.length+J.length+1=n:=h3;rw[π,π,aD (decide_eq_false (by omega)),π,aB (by omega),aB (by omega),aB (me _),aB (by omega),aB (by omega),aB (by omega)];have e:aaE D.length (D++(J++[c]))=D:=adj rfl;rw[e,ν,adj rfl,aG];simp[kz]
 |y::R,m+1,D,J,c,k2,hm,h1,h2,h3,hc=>by
  show aX N (bS N m) _ _ _ _ _=_;unfold aX;have lr:(y::R).length=R.length+1:=rfl;rw[lr]at h3 hm;have hlen:(D++(J++(c::y::R))).length=n:=by simp only[ε,aab];omega
  have r1:D++(J++(c::y::R))=(D++J++[c])++y::R:=by simp
  have r2:D++(J++(c::y::R))=(D++J)++c::(y::R):=by simp
  have g1:(D++(J++(c::y::R)))[k+k2]?=some y:=by
   have l:(D++J++[c]).length=k+k2:=by simp only[ε,aab,aaC];omega
   rw[r1,<-l];exact gW _ y _
  have g2:(D++(J++(c::y::R)))[k+(k2-1)]?=some c:=by
   have l:(D++J).length=k+(k2-1):=by rw[ε];omega
   rw[r2,<-l];exact gW _ c _
  have hcy:=hc y (by simp);have e1:(k2:Int)-1=((k2-1:Nat):Int):=by omega
  rw[π,π,aE (decide_eq_true (by omega)),aB (by omega),aB (by omega),π,fO g1,aI (by omega) (by omega),e1,aB (by omega),aB (by omega),π,fO g2];have hs:=Gk (N:=N) (x:=y) (y:=c) hcy.1 hcy.2;obtain⟨h,J2,hJ⟩:∃h J2,J++[c]=h::J2:=by
   cases J with
   |nil=>exact⟨c,[],rfl⟩
   |cons h J=>exact⟨h,J++[c],rfl⟩
  have lJ:J2.length=J.length:=by have:=congrArg List.length hJ;simpa using this.symm
  have r4:D++(J++(c::y::R))=D++h::(J2++(y::R)):=by rw[show J++(c::y::R)=(J++[c])++(y::R) by simp,hJ];rfl
  rw[hs,aC];by_cases heq:y=c
  ·rw[decide_eq_true heq,aaF,aD rfl,aG,aC];dsimp only;rw[aI (by omega) (by omega),aG,π,π];have:=FM (n:=n) (k:=k) hb R m D (J++[c]) y (k2+1) (by omega) (by omega) (by rw[ε];show _=D.length+(J.length+1)+1;omega) (by rw[ε];show D.length+(J.length+1)+1+_=_;omega) (by rw[ν];exact hc);rw[ν,show([c]++y::R)=c::y::R from rfl]at this;rw[show(k2:Int)+1=((k2+1:Nat):Int) by omega,this];subst heq;show some (D++kz y R)=some (D++(if y=y then kz y R else y::kz y R));rw[if_pos rfl]
  ·have g3:(D++(J++(c::y::R)))[D.length]?=some h:=by rw[r4];exact gW D h _
   have s1:(D++(J++(c::y::R))).set D.length y=(D++[y])++(J2++(y::R)):=by rw[r4,wV];simp
   rw[decide_eq_false heq,abk,aE rfl,aB (by omega),aB (by omega),fO g1,aB (by omega),aB (by omega),π,fO g3,aI (by omega) (by omega),kE (by rw[aa5]),aC];dsimp only;rw[aI (by omega) (by omega),aG,π,π];have:=FM (n:=n) (k:=k) hb R m (D++[y]) J2 y (k2+1) (by omega) (by omega) (by rw[ε];show _=D.length+1+_+1;omega) (by rw[ε];show D.length+1+_+1+_=_;omega) (fun x hx=>hc x (by
    rw[r4];simp only[aaj,υ,aap,List.not_mem_nil,or_false]at hx|-;rcases hx with(h1|h1)|h1|h1|h1
    ·exact .inl h1
    ·exact .inr (.inr (.inr (.inl h1)))
    ·exact .inr (.inr (.inl h1))
    ·exact .inr (.inr (.inr (.inl h1)))
    ·exact .inr (.inr (.inr (.inr h1)))))
   rw[ε,show D.length+([y]:List Vr).length=D.length+1 from rfl,<-s1]at this;rw[show(k2:Int)+1=((k2+1:Nat):Int) by omega,show(D.length:Int)+1=((D.length+1:Nat):Int) by omega];refine this.trans ?_;show some (D++[y]++kz y R)=some (D++(if y=c then kz c R else y::kz y R));rw[if_neg heq];simp
theorem QL{N n:Nat}(hb:n<=1000000000000)(hN:n<N):∀(R:List Vr) (m:Nat) (P:List Vr) (c:Vr),R.length<m->P.length+1+R.length=n->j7 N (P++(c::R))->
  bQ N m ((P.length+1:Nat):Int) (P++(c::R))=some (P++c::kz c R)
 |_,0,_,_,h,_,_=>absurd h (aah _)
 |[],m+1,P,c,hm,h3,hc=>by
  show aY N (bQ N m) _ _=_;unfold aY;have hlen:(P++[c]).length=P.length+1:=by simp
  rw[aD (decide_eq_false (by omega)),aG];rfl
 |y::R,m+1,P,c,hm,h3,hc=>by
  show aY N (bQ N m) _ _=_;unfold aY;have lr:(y::R).length=R.length+1:=rfl;rw[lr]at h3 hm;have hlen:(P++(c::y::R)).length=n:=by simp only[ε,aab];omega
  have r1:P++(c::y::R)=(P++[c])++y::R:=by simp
  have l1:(P++[c]).length=P.length+1:=by simp
  have g1:(P++(c::y::R))[P.length+1]?=some y:=by rw[r1,<-l1];exact gW _ y _
  have g2:(P++(c::y::R))[P.length]?=some c:=gW P c _;have hcy:=hc y (by simp);have e1:((P.length+1:Nat):Int)-1=(P.length:Int):=by omega
  have hs:=Gk (N:=N) (x:=y) (y:=c) hcy.1 hcy.2;rw[aE (decide_eq_true (by omega)),aB (by omega),aB (by omega),π,fO g1,aI (by omega) (by omega),e1,aB (by omega),aB (by omega),π,fO g2];rw[hs,aC];by_cases heq:y=c
  ·rw[decide_eq_true heq,aE rfl,aB (by omega),aB (by omega),aB (me _),aG,hlen];have:=FM (N:=N) (n:=n) (k:=P.length+1) hb R N (P++[c]) [] y 1 (by omega) (me _) (by rw[l1];rfl) (by rw[l1];show P.length+1+0+1+_=_;omega) (by rw[aaW,<-r1];exact hc);rw[aaW,<-r1,l1]at this;refine this.trans ?_;subst heq;show some (P++[y]++kz y R)=some (P++y::(if y=y then kz y R else y::kz y R));rw[if_pos rfl];simp
  ·rw[decide_eq_false heq,aD rfl,aI (by omega) (by omega),aG];have:=QL hb hN R m (P++[c]) y (by omega) (by rw[l1];omega) (by rw[<-r1];exact hc);rw[l1,<-r1]at this;rw[show((P.length+1:Nat):Int)+1=((P.length+1+1:Nat):Int) by omega];refine this.trans ?_;show some (P++[c]++y::kz y R)=some (P++c::(if y=c then kz c R else y::kz y R));rw[if_neg heq];simp
theorem Rr{xs:List Vr}(hb:xs.length<=1000000000000)(hN:xs.length<N)(hc:j7 N xs):cB N xs=some (cp xs):=by
 unfold cB;by_cases h:xs.length<2
 ·rw[aE (decide_eq_true (by omega)),aG]
  match xs,h with
  |[],_=>rfl
  |[x],_=>rfl
 ·rw[aD (decide_eq_false (by omega)),aG];cases xs with
  |nil=>exact absurd (by decide) h
  |cons x R=>exact QL hb hN R N [] x (by have:(x::R).length=R.length+1:=rfl;omega) (by have:(x::R).length=R.length+1:=rfl;rw[this];show 0+1+_=_;omega) hc
def A2:Vr->List Vr->Bool
 |_,[]=>true
 |c,y::r=>(!(yA c y==0)||decide (c=y))&&A2 y r
def BX(xs:List Vr):Option (Int×List Vr):=bk (decide (((cp xs).length:Int)>400)) (some (2,[])) (some (0,cp xs))
theorem K1{N n:Nat}(hb:n<=1000000000000)(hN:n<N):∀(R:List Vr) (m:Nat) (P:List Vr) (c:Vr),R.length<m->P.length+1+R.length=n->j7 N (P++(c::R))->
  fJ N m ((P.length+1:Nat):Int) (P++(c::R))=bk (A2 c R) (BX (P++(c::R))) (some (24,[]))
 |_,0,_,_,h,_,_=>absurd h (aah _)
 |[],m+1,P,c,hm,h3,hc=>by
  show eF N (fJ N m) _ _=_;unfold eF;have hlen:(P++[c]).length=P.length+1:=by simp
  have h3:P.length+1=n:=h3;rw[aD (decide_eq_false (by omega)),aG,Rr (by omega) (by omega) hc,aC];show _=BX (P++[c]);unfold BX;rw[aG]
 |y::R,m+1,P,c,hm,h3,hc=>by
  show eF N (fJ N m) _ _=_;unfold eF;have lr:(y::R).length=R.length+1:=rfl;rw[lr]at h3 hm;have hlen:(P++(c::y::R)).length=n:=by simp only[ε,aab];omega
  have r1:P++(c::y::R)=(P++[c])++y::R:=by simp
  have l1:(P++[c]).length=P.length+1:=by simp
  have g1:(P++(c::y::R))[P.length+1]?=some y:=by rw[r1,<-l1];exact gW _ y _
  have g2:(P++(c::y::R))[P.length]?=some c:=gW P c _;have hcc:=hc c (by simp);have e1:((P.length+1:Nat):Int)-1=(P.length:Int):=by omega
  have hs:=Gk (N:=N) (x:=c) (y:=y) hcc.1 hcc.2;have ho:=Ge N c y;have nxt:=K1 hb hN R m (P++[c]) y (by omega) (by rw[l1];omega) (by rw[<-r1];exact hc);rw[l1,<-r1]at nxt;rw[aE (decide_eq_true (by omega)),e1,aI (by omega) (by omega),aB (by omega),aB (by omega),π,fO g2,aB (by omega),aB (by omega),π,fO g1];rw[ho,aC];show _=bk ((!(yA c y==0)||decide (c=y))&&A2 y R) _ _;cases h0:(yA c y==0)
  ·rw[aD rfl,aG,aC];dsimp only;rw[aD rfl,aI (by omega) (by omega),aG,show((P.length+1:Nat):Int)+1=((P.length+1+1:Nat):Int) by omega,nxt,abk,Bool.true_or,Bool.true_and]
  ·rw[aE rfl,aI (by omega) (by omega),aB (by omega),aB (by omega),fO g2,aB (by omega),aB (by omega),fO g1,hs,aC,aG,aC];dsimp only;by_cases heq:c=y
   ·rw[decide_eq_true heq,aaF,aD rfl,aI (by omega) (by omega),aG,show((P.length+1:Nat):Int)+1=((P.length+1+1:Nat):Int) by omega,nxt,Bool.or_true,Bool.true_and]
   ·rw[decide_eq_false heq,abk,aE rfl,aaF,acf,Bool.false_and,aD rfl]
theorem bQ2(N m:Nat):fJ N (m+1)=eF N (fJ N m):=rfl
theorem IH(N m:Nat):oF N (m+1)=gR N (oF N m):=rfl
def Oi:List Vr->Bool
 |[]=>true
 |x::r=>A2 x r
theorem Se{a b:List Vr}{ca cb:Int}(hN:4*(a.length+b.length)+104<N)(hb:a.length+b.length<=10000000000)(hca:cZ N a=some ca)(hcb:cZ N b=some cb)(hc:j7 N (a++b)):
  ∃W,W.Perm (a++b)/\je W/\eJ N a b=bk (ca !=0) (some (ca,[])) (bk (cb !=0) (some (cb,[])) (bk (Oi W) (BX W) (some (24,[])))):=by
 obtain⟨W,w1,w2,w3⟩:=WQ (N:=N) (R:=a++b) (by rw[ε];omega) (by rw[ε];omega);have lw:W.length=a.length+b.length:=by rw[w1.length_eq,ε]
 refine⟨W,w1,w2,?_⟩;obtain⟨M,rfl⟩:∃M,N=M+1+1+1:=⟨N-3,by omega⟩;unfold eJ;have e2:((([Operand.tmp 11,Operand.tmp 12]:List Operand).length:Nat):Int)=2:=rfl;have el:((([a,b]:List (List Vr)).length:Nat):Int)=2:=rfl;have g0:([a,b]:List (List Vr))[0]?=some a:=rfl;have g1:([a,b]:List (List Vr))[1]?=some b:=rfl;have o:(0:Int)+1=((1:Nat):Int):=rfl;have t:((1:Nat):Int)+1=2:=rfl;rw[e2,IH];unfold gR;rw[aE (by decide),aB (by decide),aB (by rw[el];decide),show(0:Int).toNat=0 from rfl,fO g0,hca,aC];cases ca !=0
 ·rw[aD rfl,aD rfl,aI (by omega) (by omega),aG,o,IH];unfold gR;rw[aE (by decide),aB (by decide),aB (by rw[el];decide),π,fO g1,hcb,aC];cases cb !=0
  ·rw[aD rfl,aD rfl,aI (by omega) (by omega),aG,t,IH];unfold gR;rw[aD (by decide),bB5 (by omega) (by omega),aC,aG,w3,aC,kE (by rw[ε];omega)];have hcw:j7 (M+1+1+1) W:=fun x hx=>hc x (w1.mem_iff.1 hx);cases W with
   |nil=>
    rw[bQ2];unfold eF;rw[aD (by decide),aG,Rr (aa2 _) (by show 0<_;omega) hcw,aC];rfl
   |cons x R=>
    have lr:(x::R).length=R.length+1:=rfl;exact K1 (n:=(x::R).length) (by omega) (by omega) R (M+1+1+1) [] x (by omega) (by rw[lr];show 0+1+_=_;omega) hcw
  ·rw[aE rfl,aE rfl]
 ·rw[aE rfl,aE rfl]
abbrev rz(l:List Vr):Prop:=l.Pairwise ik
def ru(l:List Vr):Prop:=∀x∈l,∀y∈l,x.2.1=y.2.1->x.2.2.1=y.2.2.1->x=y
theorem Fk:∀(R:List Vr) (c x:Vr),(x∈c::kz c R)↔x∈c::R
 |[],c,x=>by simp[kz]
 |y::R,c,x=>by
  show x∈c::(if y=c then kz c R else y::kz y R)↔_;by_cases h:y=c
  ·subst h;rw[if_pos rfl,Fk R y x];simp
  ·rw[if_neg h,υ,Fk R y x];simp[υ]
theorem Ta(l:List Vr)(x:Vr):x∈cp l↔x∈l:=by
 cases l with
 |nil=>exact Iff.rfl
 |cons y R=>exact Fk R y x
theorem P3:∀(R:List Vr) (c:Vr),je (c::R)->(A2 c R=true↔ru (c::R))
 | [],c,_=>⟨fun _ x hx y hy _ _=>by
   rw[aap.1 hx,aap.1 hy],fun _=>rfl⟩
 |y::R,c,hs=>by
  have hs':=aav.1 hs;have ih:=P3 R y hs'.2;show((!(yA c y==0)||decide (c=y))&&A2 y R)=true↔_;rw[Bool.and_eq_true,ih];constructor
  ·rintro⟨h1,h2⟩ x hx z hz k1 k2;have key:∀z∈y::R,c.2.1=z.2.1->c.2.2.1=z.2.2.1->c=z:=fun z hz k1 k2=>by
    have hy:c.2.1=y.2.1/\c.2.2.1=y.2.2.1:=by
     have q1:=hs'.1 y (by simp);have q2:ju y z:=by
      rcases υ.1 hz with e|hz
      ·subst e;exact Iw _
      ·exact(aav.1 hs'.2).1 z hz
     unfold ju ik at q1 q2;omega
    have h0:(yA c y==0)=true:=by rw[beq_iff_eq];exact Ip.2 hy
    rw[h0,aaF,acf,decide_eq_true_eq]at h1;subst h1;exact h2 c (by simp) z hz k1 k2
   rcases υ.1 hx with e|hx
   ·rcases υ.1 hz with e'|hz'
    ·rw[e,e']
    ·rw[e]at k1 k2|-;exact key z hz' k1 k2
   ·rcases υ.1 hz with e'|hz'
    ·rw[e']at k1 k2|-;exact(key x hx k1.symm k2.symm).symm
    ·exact h2 x hx z hz' k1 k2
  ·intro h;refine⟨?_,fun x hx z hz=>h x (aaa _ hx) z (aaa _ hz)⟩;rw[Bool.or_eq_true,decide_eq_true_eq];cases h0:(yA c y==0)
   ·exact .inl rfl
   ·rw[beq_iff_eq]at h0;exact .inr (h c (by simp) y (by simp) (Ip.1 h0).1 (Ip.1 h0).2)
theorem JR:∀(R:List Vr) (c:Vr),je (c::R)->ru (c::R)->rz (c::kz c R)
 |[],c,_,_=>acZ ..
 |y::R,c,hs,hc=>by
  have hs':=aav.1 hs;show rz (c::(if y=c then kz c R else y::kz y R));by_cases h:y=c
  ·subst h;rw[if_pos rfl];exact JR R y hs'.2 fun x hx z hz=>hc x (aaa _ hx) z (aaa _ hz)
  ·rw[if_neg h];refine aav.2 ⟨fun x hx=>?_,JR R y hs'.2 fun x hx z hz=>hc x (aaa _ hx) z (aaa _ hz)⟩;have hx:=(Fk R y x).1 hx;have q1:=hs'.1 x hx;have q2:ju y x:=by
    rcases υ.1 hx with e|hx
    ·subst e;exact Iw _
    ·exact(aav.1 hs'.2).1 x hx
   have q3:=hs'.1 y (by simp);have q4:¬(c.2.1=y.2.1/\c.2.2.1=y.2.2.1):=fun e=>h (hc c (by simp) y (by simp) e.1 e.2).symm;unfold ju ik at q1 q2 q3;unfold ik;omega
theorem bRw(hs:je l)(hc:ru l):rz (cp l):=by
 cases l with
 |nil=>exact .nil
 |cons x R=>exact JR R x hs hc
theorem Mp(hs:je l):Oi l=true↔ru l:=by
 cases l with
 |nil=>exact⟨fun _ x hx=>(by cases hx),fun _=>rfl⟩
 |cons x R=>exact P3 R x hs
theorem LI:∀{l l':List Vr},rz l->rz l'->(∀x,x∈l↔x∈l')->l=l'
 |[],[],_,_,_=>rfl
 |[],y::r,_,_,h=>absurd ((h y).2 (by simp)) (by simp)
 |x::r,[],_,_,h=>absurd ((h x).1 (by simp)) (by simp)
 |x::r,y::r',h1,h2,h=>by
  have p1:=aav.1 h1;have p2:=aav.1 h2;have hxy:x=y:=by
   rcases υ.1 ((h x).1 (by simp))with e|e
   ·exact e
   ·rcases υ.1 ((h y).2 (by simp))with e'|e'
    ·exact e'.symm
    ·have q1:=p2.1 x e;have q2:=p1.1 y e';unfold ik at q1 q2;omega
  subst hxy;have irr:∀z,ik z z->False:=fun z hz=>by unfold ik at hz;omega
  congr 1;refine LI p1.2 p2.2 fun z=>⟨fun hz=>?_,fun hz=>?_⟩
  ·rcases υ.1 ((h z).1 (aaa _ hz))with e|e
   ·subst e;exact(irr _ (p1.1 _ hz)).elim
   ·exact e
  ·rcases υ.1 ((h z).2 (aaa _ hz))with e|e
   ·subst e;exact(irr _ (p2.1 _ hz)).elim
   ·exact e
theorem bPp{a b:List Vr}(hN:4*(a.length+b.length)+104<N)(hb:a.length+b.length<=10000000000)(hca:cZ N a=some 0)(hcb:cZ N b=some 0)(hc:j7 N (a++b)):
  (¬ru (a++b)/\eJ N a b=some (24,[]))\/
  (ru (a++b)/\∃L,rz L/\(∀x,x∈L↔x∈a\/x∈b)/\((400<L.length/\eJ N a b=some (2,[]))\/(L.length<=400/\eJ N a b=some (0,L)))):=by
 obtain⟨W,w1,w2,w3⟩:=Se hN hb hca hcb hc;rw[aD (by decide),aD (by decide)]at w3;have hcw:ru W↔ru (a++b):=by
  unfold ru;constructor
  ·intro h x hx y hy;exact h x (w1.mem_iff.2 hx) y (w1.mem_iff.2 hy)
  ·intro h x hx y hy;exact h x (w1.mem_iff.1 hx) y (w1.mem_iff.1 hy)
 by_cases h:ru (a++b)
 ·right;have h':=hcw.2 h;rw[aE ((Mp w2).2 h')]at w3;refine⟨h,cp W,bRw w2 h',fun x=>by rw[Ta,w1.mem_iff,aaj],?_⟩;unfold BX at w3;by_cases hl:400<(cp W).length
  ·left;rw[aE (decide_eq_true (by omega))]at w3;exact⟨hl,w3⟩
  ·right;rw[aD (decide_eq_false (by omega))]at w3;exact⟨by omega,w3⟩
 ·left;rw[aD (Bool.eq_false_iff.2 fun e=>h (hcw.1 ((Mp w2).1 e)))]at w3;exact⟨h,w3⟩
end Go.Proofs.Tryz

/- Texts of this claim. -/
import Derived.Test.YtoklpgfaedjjpaaGreatDoorProg
import Derived.Test.YtoklpgfaedjjpaaGreatDoorYB
import Derived.Shelf.Lays
import Derived.Shelf.Lays2
import Derived.Shelf.Sort.Plain
import Derived.Shelf.Slices.In.SortNone
import Derived.Sort.OwnSortedInts
import Derived.Shelf.Slices.CompactI
import Derived.Shelf.Strings.Builder1
import Derived.Maps.AppendAt
open Array renaming ext'->my,getElem?_eq_none->ki,getElem?_eq_some_iff->aq,getElem?_modify->kr,getElem?_toList->bc
open Go.IntKind renaming bits->gm,wrap->δ
open Int renaming tdiv->lz,tmod->ei
open List renaming drop->df,ext_getElem?->jc,getElem?_eq_getElem->ν,getElem?_eq_none->bw,getElem?_map->ba,getElem?_take_of_lt->c6,length_append->ι,length_eq_zero_iff->de,length_map->κ,length_take->bn,map_append->bq,map_cons->cu,map_eq_nil_iff->jd,mem_cons->bo,mem_cons_of_mem->cp,mem_cons_self->cr,mem_singleton->bj,pairwise_cons->gz,replicate->ω,set->cx,take->cm
open Nat renaming le_add_right->iv,le_refl->τ,mul_one->ct,zero_add->bg,zero_le->fo,zero_mul->mq
open Option renaming map_eq_some_iff->θ
set_option linter.all false
set_option maxRecDepth 8000
namespace Go.Proofs.Tryz
open Go.Eng Go.RowKit
abbrev tC:Ty:=.i .i64
abbrev tJ:Ty:=.w (.p .b (.p .s .s))
abbrev tE:Ty:=.w (.p tC tJ)
abbrev tA:Ty:=.w (.p tC (.p tC (.p tC (.p tC (.p tC (.p tC (.p tC (.w (.sl tE)))))))))
abbrev TM:Type:=Bool×(Str×Str)
abbrev TE:Type:=List (Int×TM)
abbrev TH:Type:=Int×(Int×(Int×(Int×(Int×(Int×(Int×TE))))))
abbrev TA:Type:=List TH
abbrev tB:Ty:=.w (.p tC (.p tC (.p tC (.p tC (.p tC tC)))))
abbrev TL:Type:=Int×Int
abbrev TB0:Type:=Int×TL
abbrev TB:Type:=Int×(Int×(Int×TB0))
abbrev TC:Type:=List Int
abbrev TG:Type:=List TB
abbrev TF:Type:=Int×(TG×TA)
abbrev tD:Ty:=.w (.p tC (.p (.sl tB) (.sl tA)))
abbrev tI:Ty:=.i .u32
abbrev tF:Ty:=.sl tI
abbrev tK:Ty:=.i .u64
abbrev tG:Ty:=.w (.p (.ar 8 .u32) (.p (.ar 64 .u8) tK))
abbrev TI:Type:=(Arr 8)×((Arr 64)×Int)
abbrev TJ:Type:=List (Str×Bool)
abbrev tH:Ty:=.sl (.i .u8)
abbrev TK:Type:=List Str
abbrev TN:Type:=List TF
abbrev TO:Type:=Int×(TG×(TA×Int))
abbrev TP:Type:=Int×(Int×(Int×(Int×(Int×(Int×(Int×(TE×Int)))))))
abbrev TQ:Type:=Int×(TC×(Int×(Int×(TC×TC))))
abbrev TR:Type:=List (TB×TB)
abbrev tL:Ty:=.w (.p tB tB)
abbrev TS:Type:=Int×TA
abbrev TT:Type:=Int×TG
abbrev TU:Type:=List (TL×TB)
abbrev TV:Type:=List TA
abbrev tM:Ty:=.sl (.sl tA)
abbrev TW:Type:=Int×TN
abbrev tN:Ty:=.ar 64 .u32
abbrev TX:Type:=TC×(Int×((Arr 64)×(Arr 64)))
abbrev TY:Type:=Int×(Int×TC)
abbrev TZ:Type:=Int×(Int×TK)
abbrev tO:Ty:=.w (.p tC tC)
abbrev TA0:Type:=Int×TF
abbrev kX:Value:=.iface 215 (.agg #[])
def lK(N:Nat)(p1:Int):Option Int:=some p1
abbrev qS(N:Nat):Sig:=⟨97,⟨[(0,.ptr (.B 0) 0)],[some (.box [dd tC])],[]⟩,[⟨[],[some (.box [dd tC])],[]⟩],lK N⟩
theorem yF(N:Nat):aAt Tryz.prog .returning .returning (qS N):=bNh N (T:=[]) trivial [] [] (fn:=Tryz.f97) (pv:=.nilIface) Tryz.func97 rfl rfl rfl rfl rfl rfl rfl (by rw[Tryz.ntmps97];decide) (by kernel_rfl) bCr (by rw[Tryz.ntmps97];decide) (fun a=>by kernel_rfl)
def cF(N:Nat)(p1:Int):Option Int:=some 11
abbrev qM(N:Nat):Sig:=⟨97,⟨[(0,.ptr (.B 0) 0)],[some (.box [dd tC])],[]⟩,[⟨[],[some (.box [dd tC])],[]⟩],cF N⟩
theorem yJ(N:Nat):aAt Tryz.prog (.panicking [{v:=kX,recovered:=false}]) (.panicking [{v:=kX,recovered:=true}]) (qM N):=bNh N (T:=[]) trivial [] [] (fn:=Tryz.f97) (pv:=kX) Tryz.func97 rfl rfl rfl rfl rfl rfl rfl (by rw[Tryz.ntmps97];decide) (by kernel_rfl) bC9 (by rw[Tryz.ntmps97];decide) (fun a=>by kernel_rfl)
set_option maxRecDepth 8000
set_option synthInstance.maxSize 100000000
set_option synthInstance.maxHeartbeats 4000000
def qK(N:Nat)(a:Str):Option Bool:=bd? (if? (a==([]:Str)) (some true) (aU a (0) fun b=>some ((b.toNat:Int)!=0))) fun c=>some c
abbrev aVg(N:Nat):Sig:=⟨195,⟨[(0,dd .s)],[],[]⟩,[⟨[(0,dd .b)],[],[]⟩],qK N⟩
theorem aV8(N:Nat):aD Tryz.prog (aVg N):=xf N tn [] [⟨1,true,⟨[(2,dd .b)],[],[]⟩⟩] 0 Tryz.func195 rfl (by kernel_rfl) fun a=>by kernel_rfl
def lY(rec2:TC->Option TC)(b:TC):Option TC:=bd? (if? (decide ((b.length:Int)>0)) (ck .i64 ((b.length:Int)-1) (aU b ((b.length:Int)-1) fun c=>some (b,(c==0)))) (some (b,false))) fun a=>if? a.2 (ck .i64 ((a.1.length:Int)-1) (gd? (0<=((a.1.length:Int)-1)) (gd? (0<=((a.1.length:Int)-1).toNat) (gd? (((a.1.length:Int)-1).toNat<=a.1.length) (rec2 (cm (((a.1.length:Int)-1).toNat-0) (df 0 a.1))))))) (some a.1)
def mI:Nat->TC->Option TC:=aL [tF] (lY)
def aY(N:Nat)(a:TC):Option TC:=mI N a
abbrev aGz(N:Nat):Sig:=⟨217,⟨[(0,dd tF)],[],[]⟩,[⟨[(0,dd tF)],[],[]⟩],aY N⟩
theorem eH(N:Nat):aD Tryz.prog (aGz N):=xf N tn [] [⟨4,true,⟨[(0,dd tF),(14,dd .b)],[],[]⟩⟩,⟨2,false,⟨[(0,dd tF)],[],[]⟩⟩] 0 Tryz.func217 rfl (by kernel_rfl) fun a=>by kernel_rfl
def wY(rec2:Str->Int->TC->Option TC)(h:Str->Int->Int->TC->Int->Int->TC->Option TC)(e:Str)(d b:Int)(f:TC)(g c:Int)(a:TC):Option TC:=if? (decide (c<g)) (aU f c fun i=>ck .i64 (c+1) (gl? a.length a (h e d (bits .or .u32 (δ .u32 (b*(2^8))) (δ .u32 i)) f g (c+1) a))) (gl? a.length a (gd? (((a.length+[b].length)*4)<=140737488355328) (ck .i64 (d-4) (gl? ((a++[b]).length) (a++[b]) (rec2 e (d-4) (a++[b]))))))
def xP(rec2:Str->Int->TC->Option TC):Nat->Str->Int->Int->TC->Int->Int->TC->Option TC:=aL [.s,tC,tI,tH,tC,tC,tF] (wY rec2)
def yA(N:Nat)(rec2:Str->Int->TC->Option TC)(c:Str)(a:Int)(b:TC):Option TC:=if? (decide (a>0)) (ck .i64 (a-4) (gd? (0<=a) (gd? (0<=(Max.max 0 (a-4))) (gd? ((Max.max 0 (a-4)).toNat<=a.toNat) (gd? (a.toNat<=c.length) (gl? b.length b (xP rec2 N c a 0 (aE (cm (a.toNat-(Max.max 0 (a-4)).toNat) (df (Max.max 0 (a-4)).toNat c))) (((aE (cm (a.toNat-(Max.max 0 (a-4)).toNat) (df (Max.max 0 (a-4)).toNat c))).length:Nat):Int) 0 b))))))) (gl? b.length b (bd? (aY N b) fun d=>some d))
def rI(N:Nat):Nat->Str->Int->TC->Option TC:=aL [.s,tC,tF] (yA N)
def dE(N:Nat)(a:Str):Option TC:=rI N N a (a.length:Int) ([]:TC)
abbrev aYs(N:Nat):Sig:=⟨207,⟨[(0,dd .s)],[],[]⟩,[⟨[(0,dd tF)],[],[]⟩],dE N⟩
theorem sK(N:Nat):aD Tryz.prog (aYs N):=xf N (tc (eH N) tn) [35] [⟨11,false,⟨[(0,dd .s),(3,.slw (.O 0) tI 0),(4,dd tC),(5,dd tI),(20,dd tH),(21,dd tC),(22,dd tC)],[],[some (.row true tI [])]⟩⟩,⟨4,false,⟨[(0,dd .s),(3,.slw (.O 0) tI 0),(4,dd tC)],[],[some (.row true tI [])]⟩⟩] 0 Tryz.func207 rfl (by kernel_rfl) fun a=>by kernel_rfl
def lF(N:Nat)(a:Int):Option Bool:=some (a !=a)
abbrev aI6(N:Nat):Sig:=⟨168,⟨[(0,dd tC)],[],[]⟩,[⟨[(0,dd .b)],[],[]⟩],lF N⟩
theorem aIb(N:Nat):aD Tryz.prog (aI6 N):=xf N tn [] [] 0 Tryz.func168 rfl (by kernel_rfl) fun a=>by kernel_rfl
def cB(N:Nat)(a b:Int):Option Int:=bd? (lF N a) fun d=>bd? (lF N b) fun c=>if? d (if? c (some (0)) (some (-1))) (if? c (some (1)) (if? (decide (a<b)) (some (-1)) (if? (decide (a>b)) (some (1)) (some (0)))))
abbrev aFv(N:Nat):Sig:=⟨142,⟨[(0,dd tC),(1,dd tC)],[],[]⟩,[⟨[(0,dd tC)],[],[]⟩],cB N⟩
theorem oD(N:Nat):aD Tryz.prog (aFv N):=xf N (tc (aIb N) tn) [] [] 0 Tryz.func142 rfl (by kernel_rfl) fun a=>by kernel_rfl
def lV(N:Nat)(a:Int):Option Bool:=some (a !=a)
abbrev aCl(N:Nat):Sig:=⟨228,⟨[(0,dd tI)],[],[]⟩,[⟨[(0,dd .b)],[],[]⟩],lV N⟩
theorem aDb(N:Nat):aD Tryz.prog (aCl N):=xf N tn [] [] 0 Tryz.func228 rfl (by kernel_rfl) fun a=>by kernel_rfl
def jE(N:Nat)(a b:Int):Option Int:=bd? (lV N a) fun d=>bd? (lV N b) fun c=>if? d (if? c (some (0)) (some (-1))) (if? c (some (1)) (if? (decide (a<b)) (some (-1)) (if? (decide (a>b)) (some (1)) (some (0)))))
abbrev zW(N:Nat):Sig:=⟨225,⟨[(0,dd tI),(1,dd tI)],[],[]⟩,[⟨[(0,dd tC)],[],[]⟩],jE N⟩
theorem zP(N:Nat):aD Tryz.prog (zW N):=xf N (tc (aDb N) tn) [] [] 0 Tryz.func225 rfl (by kernel_rfl) fun a=>by kernel_rfl
def iC(N:Nat)(e:TC->TC->Int->Option Int)(b c:TC)(a:Int):Option Int:=if? (decide (a≥0)) (aU b a fun f=>aU c a fun g=>bd? (jE N f g) fun d=>if? (d !=0) (some d) (ck .i64 (a-1) (e b c (a-1)))) (some (0))
def iB(N:Nat):Nat->TC->TC->Int->Option Int:=aL [tF,tF,tC] (iC N)
def bY(N:Nat)(a b:TC):Option Int:=bd? (cB N (a.length:Int) (b.length:Int)) fun c=>if? (c !=0) (some c) (ck .i64 ((a.length:Int)-1) (iB N N a b ((a.length:Int)-1)))
abbrev aBr(N:Nat):Sig:=⟨215,⟨[(0,dd tF),(1,dd tF)],[],[]⟩,[⟨[(0,dd tC)],[],[]⟩],bY N⟩
theorem kO(N:Nat):aD Tryz.prog (aBr N):=xf N (tc (oD N) (tc (zP N) tn)) [] [⟨7,false,⟨[(0,dd tF),(1,dd tF),(6,dd tC)],[],[]⟩⟩] 0 Tryz.func215 rfl (by kernel_rfl) fun a=>by kernel_rfl
def kS(N:Nat)(rec3:TC->Int->Int->Int->TC->Option (TC×Int))(f:TC)(c d a:Int)(b:TC):Option (TC×Int):=if? (decide (a≥0)) (aU f a fun e=>gd? ((δ .u64 c)≠0) (gd? ((δ .u64 c)≠0) (gd? (0<=a) (gd? (a<(b.length:Int)) (gn? b a.toNat fun h=>ck .i64 (a-1) (gl? b.length (cx b a.toNat (δ .u32 (δ .u64 (lz (bits .or .u64 (δ .u64 (d*(2^32))) (δ .u64 e)) (δ .u64 c))))) (rec3 f c (ei (bits .or .u64 (δ .u64 (d*(2^32))) (δ .u64 e)) (δ .u64 c)) (a-1) (cx b a.toNat (δ .u32 (δ .u64 (lz (bits .or .u64 (δ .u64 (d*(2^32))) (δ .u64 e)) (δ .u64 c)))))))))))) (gl? b.length b (bd? (aY N b) fun g=>some (g,(δ .u32 d))))
def kU(N:Nat):Nat->TC->Int->Int->Int->TC->Option (TC×Int):=aL [tF,tI,tK,tC,tF] (kS N)
def eT(N:Nat)(a:TC)(b:Int):Option (TC×Int):=gd? (0<=(a.length:Int)) (gd? ((a.length:Int)<=(a.length:Int)) (gd? ((a.length:Int).toNat<=9223372036854775807) (gd? (((a.length:Int).toNat*4)<=281474976710656) (ck .i64 ((a.length:Int)-1) (gl? ((a.length:Int).toNat) (ω (a.length:Int).toNat 0:TC) (kU N N a b 0 ((a.length:Int)-1) (ω (a.length:Int).toNat 0:TC)))))))
abbrev aDx(N:Nat):Sig:=⟨216,⟨[(0,dd tF),(1,dd tI)],[],[]⟩,[⟨[(0,dd tF),(1,dd tI)],[],[]⟩],eT N⟩
theorem uK(N:Nat):aD Tryz.prog (aDx N):=xf N (tc (eH N) tn) [] [⟨4,false,⟨[(0,dd tF),(1,dd tI),(6,.slw (.O 0) tI 0),(7,dd tK),(8,dd tC)],[],[some (.row true tI [])]⟩⟩] 0 Tryz.func216 rfl (by kernel_rfl) fun a=>by kernel_rfl
def dO(N:Nat)(a:TC)(b:Int):Option Int:=if? (decide (b<(a.length:Int))) (aU a b fun c=>some (δ .u64 c)) (some (0))
abbrev aNj(N:Nat):Sig:=⟨226,⟨[(0,dd tF),(1,dd tC)],[],[]⟩,[⟨[(0,dd tK)],[],[]⟩],dO N⟩
theorem sT(N:Nat):aD Tryz.prog (aNj N):=xf N tn [] [] 0 Tryz.func226 rfl (by kernel_rfl) fun a=>by kernel_rfl
def eD(N:Nat)(rec3:TC->TC->Int->Int->TC->Option TC)(m:TC->Int->Int->Int->Int->TC->Int->Int->TC->Option TC)(c:TC)(h i:Int)(d e:Int)(j:TC)(k l:Int)(b:TC):Option TC:=bd? (if? (decide (e<(c.length:Int))) (gl? b.length b (some (c,h,i,d,e,j,k,l,true,b))) (gl? b.length b (some (c,h,i,d,e,j,k,l,decide (d>0),b)))) fun a=>if? a.2.2.2.2.2.2.2.2.1 (bd? (dO N a.1 a.2.2.2.2.1) fun f=>ck .i64 (a.2.1+a.2.2.2.2.1) (gd? (0<=(a.2.1+a.2.2.2.2.1)) (gd? ((a.2.1+a.2.2.2.2.1)<(a.2.2.2.2.2.2.2.2.2.length:Int)) (gn? a.2.2.2.2.2.2.2.2.2 ((a.2.1+a.2.2.2.2.1).toNat) fun g=>ck .i64 (a.2.1+a.2.2.2.2.1) (gd? (0<=(a.2.1+a.2.2.2.2.1)) (gd? ((a.2.1+a.2.2.2.2.1)<(a.2.2.2.2.2.2.2.2.2.length:Int)) (gn? a.2.2.2.2.2.2.2.2.2 ((a.2.1+a.2.2.2.2.1).toNat) fun n=>ck .i64 (a.2.2.2.2.1+1) (gl? a.2.2.2.2.2.2.2.2.2.length (cx a.2.2.2.2.2.2.2.2.2 (a.2.1+a.2.2.2.2.1).toNat (δ .u32 (δ .u64 ((δ .u64 ((δ .u64 ((δ .u64 a.2.2.1)*f))+(δ .u64 g)))+a.2.2.2.1)))) (m a.1 a.2.1 a.2.2.1 ((δ .u64 ((δ .u64 ((δ .u64 ((δ .u64 a.2.2.1)*f))+(δ .u64 g)))+a.2.2.2.1))/(2^32)) (a.2.2.2.2.1+1) a.2.2.2.2.2.1 a.2.2.2.2.2.2.1 a.2.2.2.2.2.2.2.1 (cx a.2.2.2.2.2.2.2.2.2 (a.2.1+a.2.2.2.2.1).toNat (δ .u32 (δ .u64 ((δ .u64 ((δ .u64 ((δ .u64 a.2.2.1)*f))+(δ .u64 g)))+a.2.2.2.1))))))))))))) (ck .i64 (a.2.2.2.2.2.2.2.1+1) (gl? a.2.2.2.2.2.2.2.2.2.length a.2.2.2.2.2.2.2.2.2 (rec3 a.1 a.2.2.2.2.2.1 a.2.2.2.2.2.2.1 (a.2.2.2.2.2.2.2.1+1) a.2.2.2.2.2.2.2.2.2)))
def bL(N:Nat)(rec3:TC->TC->Int->Int->TC->Option TC):Nat->TC->Int->Int->Int->Int->TC->Int->Int->TC->Option TC:=aL [tF,tC,tI,tK,tC,tF,tC,tC,tF] (eD N rec3)
def kM(N:Nat)(rec3:TC->TC->Int->Int->TC->Option TC)(e c:TC)(d b:Int)(a:TC):Option TC:=if? (decide (b<d)) (aU c b fun f=>gl? a.length a (bL N rec3 N e b f 0 0 c d b a)) (gl? a.length a (bd? (aY N a) fun g=>some g))
def dZ(N:Nat):Nat->TC->TC->Int->Int->TC->Option TC:=aL [tF,tF,tC,tC,tF] (kM N)
def cU(N:Nat)(a b:TC):Option TC:=ck .i64 ((a.length:Int)+(b.length:Int)) (ck .i64 (((a.length:Int)+(b.length:Int))+1) (gd? (0<=(((a.length:Int)+(b.length:Int))+1)) (gd? ((((a.length:Int)+(b.length:Int))+1)<=(((a.length:Int)+(b.length:Int))+1)) (gd? ((((a.length:Int)+(b.length:Int))+1).toNat<=9223372036854775807) (gd? (((((a.length:Int)+(b.length:Int))+1).toNat*4)<=281474976710656) (gl? ((((a.length:Int)+(b.length:Int))+1).toNat) (ω (((a.length:Int)+(b.length:Int))+1).toNat 0:TC) (dZ N N b a (a.length:Int) 0 (ω (((a.length:Int)+(b.length:Int))+1).toNat 0:TC))))))))
abbrev aDw(N:Nat):Sig:=⟨220,⟨[(0,dd tF),(1,dd tF)],[],[]⟩,[⟨[(0,dd tF)],[],[]⟩],cU N⟩
theorem oC(N:Nat):aD Tryz.prog (aDw N):=xf N (tc (sT N) (tc (eH N) tn)) [] [⟨13,true,⟨[(1,dd tF),(5,.slw (.O 0) tI 0),(6,dd tC),(7,dd tI),(8,dd tK),(9,dd tC),(18,dd tF),(19,dd tC),(20,dd tC),(32,dd .b)],[],[some (.row true tI [])]⟩⟩,⟨11,false,⟨[(1,dd tF),(5,.slw (.O 0) tI 0),(6,dd tC),(7,dd tI),(8,dd tK),(9,dd tC),(18,dd tF),(19,dd tC),(20,dd tC)],[],[some (.row true tI [])]⟩⟩,⟨4,false,⟨[(1,dd tF),(5,.slw (.O 0) tI 0),(18,dd tF),(19,dd tC),(20,dd tC)],[],[some (.row true tI [])]⟩⟩] 0 Tryz.func220 rfl (by kernel_rfl) fun a=>by kernel_rfl
def bT(N:Nat)(b:TC)(a:Int):Option TC:=if? (decide (a<0)) (ck .i64 (-a) (gd? (0<=(-a)) (gd? ((-a)<=(((gm .u32):Nat):Int)) (bd? (eT N b (δ .u32 (1*(2^(-a).toNat)))) fun c=>some c.1)))) (gd? (0<=a) (gd? (a<=(((gm .u32):Nat):Int)) (bd? (cU N b [(δ .u32 (1*(2^a.toNat)))]) fun d=>some d)))
abbrev aDo(N:Nat):Sig:=⟨218,⟨[(0,dd tF),(1,dd tC)],[],[]⟩,[⟨[(0,dd tF)],[],[]⟩],bT N⟩
theorem aF1(N:Nat):aD Tryz.prog (aDo N):=xf N (tc (uK N) (tc (oC N) tn)) [] [] 0 Tryz.func218 rfl (by kernel_rfl) fun a=>by kernel_rfl
def bD(N:Nat)(a:TC):Option TC:=if? (decide (0<a.length)) (gd? ((a.length*4)<=140737488355328) (gl? a.length a (some a))) (ab? (some ([]:TC)) (gd? ((a.length*4)<=140737488355328) (gl? a.length a (some a))))
abbrev rN(N:Nat):Sig:=⟨219,⟨[(0,dd tF)],[],[]⟩,[⟨[(0,.slw (.O 0) tI 0)],[],[some (.row true tI [])]⟩],bD N⟩
theorem rR(N:Nat):aD Tryz.prog (rN N):=xf N tn [7] [] 0 Tryz.func219 rfl (by kernel_rfl) fun a=>by kernel_rfl
def kQ(N:Nat)(rec3:TC->TC->Int->Int->Int->TC->Option TC)(f g:TC)(b h c:Int)(a:TC):Option TC:=if? (decide (c<h)) (aU f c fun d=>bd? (dO N g c) fun e=>gl? a.length a (gd? (((a.length+[(δ .u32 (δ .u64 ((δ .u64 ((δ .u64 d)-e))-b)))].length)*4)<=140737488355328) (ck .i64 (c+1) (gl? ((a++[(δ .u32 (δ .u64 ((δ .u64 ((δ .u64 d)-e))-b)))]).length) (a++[(δ .u32 (δ .u64 ((δ .u64 ((δ .u64 d)-e))-b)))]) (rec3 f g ((δ .u64 ((δ .u64 ((δ .u64 d)-e))-b))/(2^63)) h (c+1) (a++[(δ .u32 (δ .u64 ((δ .u64 ((δ .u64 d)-e))-b)))])))))) (gl? a.length a (bd? (aY N a) fun i=>some i))
def kW(N:Nat):Nat->TC->TC->Int->Int->Int->TC->Option TC:=aL [tF,tF,tK,tC,tC,tF] (kQ N)
def dQ(N:Nat)(a b:TC):Option TC:=kW N N a b 0 (a.length:Int) 0 ([]:TC)
abbrev aFu(N:Nat):Sig:=⟨221,⟨[(0,dd tF),(1,dd tF)],[],[]⟩,[⟨[(0,dd tF)],[],[]⟩],dQ N⟩
theorem vA(N:Nat):aD Tryz.prog (aFu N):=xf N (tc (sT N) (tc (eH N) tn)) [29] [⟨5,false,⟨[(0,dd tF),(1,dd tF),(5,.slw (.O 0) tI 0),(6,dd tK),(10,dd tC),(11,dd tC)],[],[some (.row true tI [])]⟩⟩] 0 Tryz.func221 rfl (by kernel_rfl) fun a=>by kernel_rfl
def pN(N:Nat)(n:Int->TC->Int->Int->Int->Int->Int->TC->TC->TC->Option TQ)(k:Int)(f:TC)(l e:Int)(g a b:Int)(h c d:TC):Option TQ:=gd? ((a.toNat+b.toNat)<=c.length) (bd? (bD N (cm b.toNat (df a.toNat c))) fun i=>gl? i.length i (bd? (aY N i) fun o=>bd? (bY N o h) fun p=>if? (decide (p<0)) (bd? (dQ N h f) fun q=>gl? c.length c (gl? d.length d (n k f l e (δ .u64 (g-1)) (a.toNat:Int) (b.toNat:Int) q c d))) (gd? ((a.toNat+b.toNat)<=c.length) (bd? (bD N (cm b.toNat (df a.toNat c))) fun j=>gl? j.length j (bd? (aY N j) fun r=>bd? (dQ N r h) fun m=>gd? ((a.toNat+b.toNat)<=c.length) (gd? ((a.toNat+b.toNat)<=(((cm a.toNat c)++(ω b.toNat 0:TC))++(df (a.toNat+b.toNat) c)).length) (gd? (0<=e) (gd? (e<(d.length:Int)) (gn? d e.toNat fun s=>gl? c.length (aVq (((cm a.toNat c)++(ω b.toNat 0:TC))++(df (a.toNat+b.toNat) c)) a.toNat b.toNat m) (gl? d.length (cx d e.toNat (δ .u32 g)) (some (k,f,l,e,(aVq (((cm a.toNat c)++(ω b.toNat 0:TC))++(df (a.toNat+b.toNat) c)) a.toNat b.toNat m),(cx d e.toNat (δ .u32 g))))))))))))))
def jZ(N:Nat):Nat->Int->TC->Int->Int->Int->Int->Int->TC->TC->TC->Option TQ:=aL [tC,tF,tC,tC,tK,tC,tC,tF,tF,tF] (pN N)
def pG(N:Nat)(j:Int->TC->Int->Int->Int->Int->TC->TC->Option TQ)(i:Int)(g:TC)(b d:Int)(h f:Int)(c e:TC):Option TQ:=bd? (if? (decide (f<4294967296)) (ck .i64 (b-2) (aU g (b-2) fun k=>ck .i64 (d+b) (ck .i64 ((d+b)-2) (gd? (0<=((d+b)-2)) (gd? (((d+b)-2)<(c.length:Int)) (gn? c (((d+b)-2).toNat) fun l=>gl? c.length c (gl? e.length e (some (i,g,b,d,h,f,decide ((δ .u64 (h*(δ .u64 k)))>(bits .or .u64 (δ .u64 (f*(2^32))) (δ .u64 l))),c,e))))))))) (gl? c.length c (gl? e.length e (some (i,g,b,d,h,f,false,c,e))))) fun a=>if? a.2.2.2.2.2.2.1 (ck .i64 (a.2.2.1-1) (aU a.2.1 (a.2.2.1-1) fun m=>gl? a.2.2.2.2.2.2.2.1.length a.2.2.2.2.2.2.2.1 (gl? a.2.2.2.2.2.2.2.2.length a.2.2.2.2.2.2.2.2 (j a.1 a.2.1 a.2.2.1 a.2.2.2.1 (δ .u64 (a.2.2.2.2.1-1)) (δ .u64 (a.2.2.2.2.2.1+(δ .u64 m))) a.2.2.2.2.2.2.2.1 a.2.2.2.2.2.2.2.2)))) (if? (a.2.2.2.2.1==0) (gl? a.2.2.2.2.2.2.2.1.length a.2.2.2.2.2.2.2.1 (gl? a.2.2.2.2.2.2.2.2.length a.2.2.2.2.2.2.2.2 (some (a.1,a.2.1,a.2.2.1,a.2.2.2.1,a.2.2.2.2.2.2.2.1,a.2.2.2.2.2.2.2.2)))) (ck .i64 (a.2.2.2.1+a.2.2.1) (ck .i64 ((a.2.2.2.1+a.2.2.1)+1) (gd? (0<=((a.2.2.2.1+a.2.2.1)+1)) (gd? (0<=a.2.2.2.1) (gd? (a.2.2.2.1.toNat<=((a.2.2.2.1+a.2.2.1)+1).toNat) (gd? (((a.2.2.2.1+a.2.2.1)+1).toNat<=a.2.2.2.2.2.2.2.1.length) (bd? (cU N a.2.1 [(δ .u32 a.2.2.2.2.1)]) fun n=>gl? a.2.2.2.2.2.2.2.1.length a.2.2.2.2.2.2.2.1 (gl? a.2.2.2.2.2.2.2.2.length a.2.2.2.2.2.2.2.2 (jZ N N a.1 a.2.1 a.2.2.1 a.2.2.2.1 a.2.2.2.2.1 (a.2.2.2.1.toNat:Int) (((((a.2.2.2.1+a.2.2.1)+1).toNat-a.2.2.2.1.toNat):Nat):Int) n a.2.2.2.2.2.2.2.1 a.2.2.2.2.2.2.2.2))))))))))
def pH(N:Nat):Nat->Int->TC->Int->Int->Int->Int->TC->TC->Option TQ:=aL [tC,tF,tC,tC,tK,tK,tF,tF] (pG N)
def pK(N:Nat)(k:Int->TC->Int->Int->TC->TC->Option (TC×TC))(f:Int)(g:TC)(a b:Int)(d e:TC):Option (TC×TC):=if? (decide (b≥0)) (bd? (ck .i64 (b+a) (gd? (0<=(b+a)) (gd? ((b+a)<(d.length:Int)) (gn? d ((b+a).toNat) fun h=>ck .i64 (b+a) (ck .i64 ((b+a)-1) (gd? (0<=((b+a)-1)) (gd? (((b+a)-1)<(d.length:Int)) (gn? d (((b+a)-1).toNat) fun i=>ck .i64 (a-1) (aU g (a-1) fun j=>gd? ((δ .u64 j)≠0) (ck .i64 (a-1) (aU g (a-1) fun l=>gl? d.length d (gl? e.length e (pH N N f g a b (Min.min (δ .u64 (lz (bits .or .u64 (δ .u64 ((δ .u64 h)*(2^32))) (δ .u64 i)) (δ .u64 j))) 4294967295) (δ .u64 ((bits .or .u64 (δ .u64 ((δ .u64 h)*(2^32))) (δ .u64 i))-(δ .u64 ((Min.min (δ .u64 (lz (bits .or .u64 (δ .u64 ((δ .u64 h)*(2^32))) (δ .u64 i)) (δ .u64 j))) 4294967295)*(δ .u64 l))))) d e))))))))))))) fun c=>ck .i64 (c.2.2.2.1-1) (gl? c.2.2.2.2.1.length c.2.2.2.2.1 (gl? c.2.2.2.2.2.length c.2.2.2.2.2 (k c.1 c.2.1 c.2.2.1 (c.2.2.2.1-1) c.2.2.2.2.1 c.2.2.2.2.2)))) (gl? e.length e (bd? (aY N e) fun m=>gl? d.length d (bd? (aY N d) fun n=>ck .i64 (-f) (bd? (bT N n (-f)) fun o=>some (m,o)))))
def pC(N:Nat):Nat->Int->TC->Int->Int->TC->TC->Option (TC×TC):=aL [tC,tF,tC,tC,tF,tF] (pK N)
def pL(N:Nat)(f:TC->TC->Int->Option (TC×TC))(b e:TC)(d:Int):Option (TC×TC):=ck .i64 ((e.length:Int)-1) (aU e ((e.length:Int)-1) fun g=>gd? (0<=d) (gd? (d<=(((gm .u32):Nat):Int)) (if? (decide ((δ .u32 (g*(2^d.toNat)))<2147483648)) (ck .i64 (d+1) (f b e (d+1))) (bd? (bT N e d) fun a=>bd? (bT N b d) fun h=>bd? (bD N h) fun c=>gl? c.length c (gd? (((c.length+[0,0].length)*4)<=140737488355328) (ck .i64 ((b.length:Int)-(a.length:Int)) (ck .i64 (((b.length:Int)-(a.length:Int))+2) (gd? (0<=(((b.length:Int)-(a.length:Int))+2)) (gd? ((((b.length:Int)-(a.length:Int))+2)<=(((b.length:Int)-(a.length:Int))+2)) (gd? ((((b.length:Int)-(a.length:Int))+2).toNat<=9223372036854775807) (gd? (((((b.length:Int)-(a.length:Int))+2).toNat*4)<=281474976710656) (ck .i64 ((((c++[0,0]).length:Nat):Int)-(a.length:Int)) (ck .i64 (((((c++[0,0]).length:Nat):Int)-(a.length:Int))-1) (gl? ((c++[0,0]).length) (c++[0,0]) (gl? ((((b.length:Int)-(a.length:Int))+2).toNat) (ω (((b.length:Int)-(a.length:Int))+2).toNat 0:TC) (pC N N d a (a.length:Int) (((((c++[0,0]).length:Nat):Int)-(a.length:Int))-1) (c++[0,0]) (ω (((b.length:Int)-(a.length:Int))+2).toNat 0:TC)))))))))))))))))
def pO(N:Nat):Nat->TC->TC->Int->Option (TC×TC):=aL [tF,tF,tC] (pL N)
def oJ(N:Nat)(a b:TC):Option (TC×TC):=bd? (bY N a b) fun d=>if? (decide (d<0)) (some (([]:TC),a)) (if? ((b.length:Int)==1) (aU b (0) fun e=>bd? (eT N a e) fun c=>bd? (aY N [c.2]) fun f=>some (c.1,f)) (pO N N a b 0))
abbrev aLv(N:Nat):Sig:=⟨206,⟨[(0,dd tF),(1,dd tF)],[],[]⟩,[⟨[(0,dd tF),(1,dd tF)],[],[]⟩],oJ N⟩
theorem aLt(N:Nat):aD Tryz.prog (aLv N):=xf N (tc (kO N) (tc (uK N) (tc (eH N) (tc (aF1 N) (tc (rR N) (tc (oC N) (tc (vA N) tn))))))) [59] [⟨23,true,⟨[(8,dd tC),(9,dd tF),(10,.slw (.O 0) tI 0),(11,dd tC),(12,.slw (.O 1) tI 0),(13,dd tC)],[],[some (.row true tI []),some (.row true tI [])]⟩⟩,⟨37,false,⟨[(8,dd tC),(9,dd tF),(10,.slw (.O 0) tI 0),(11,dd tC),(12,.slw (.O 1) tI 0),(13,dd tC),(15,dd tK),(17,.sl (.O 0) tI 0 0),(18,dd tF)],[],[some (.row true tI []),some (.row true tI [])]⟩⟩,⟨30,true,⟨[(8,dd tC),(9,dd tF),(10,.slw (.O 0) tI 0),(11,dd tC),(12,.slw (.O 1) tI 0),(13,dd tC),(15,dd tK),(16,dd tK),(136,dd .b)],[],[some (.row true tI []),some (.row true tI [])]⟩⟩,⟨28,false,⟨[(8,dd tC),(9,dd tF),(10,.slw (.O 0) tI 0),(11,dd tC),(12,.slw (.O 1) tI 0),(13,dd tC),(15,dd tK),(16,dd tK)],[],[some (.row true tI []),some (.row true tI [])]⟩⟩,⟨20,false,⟨[(8,dd tC),(9,dd tF),(10,.slw (.O 0) tI 0),(11,dd tC),(12,.slw (.O 1) tI 0),(13,dd tC)],[],[some (.row true tI []),some (.row true tI [])]⟩⟩,⟨10,false,⟨[(0,dd tF),(1,dd tF),(8,dd tC)],[],[]⟩⟩] 0 Tryz.func206 rfl (by kernel_rfl) fun a=>by kernel_rfl
def qH(N:Nat)(G_nat_Gcd_1:Nat->TC->TC->Option TC)(b a:TC):Option TC:=if? ((a.length:Int)==0) (some b) (bd? (oJ N b a) fun c=>bd? (G_nat_Gcd_1 N a c.2) fun d=>some d)
def G_nat_Gcd_1:Nat->TC->TC->Option TC|0=>fun _ _=>none|N+1=>qH N fun _=>G_nat_Gcd_1 N
abbrev aVf(N:Nat):Sig:=⟨205,⟨[(0,dd tF),(1,dd tF),(2,.ptr (.B 0) 0)],[some (.box [.clo 205 [.ptr (.B 0) 0]])],[]⟩,[⟨[(0,dd tF)],[some (.box [.clo 205 [.ptr (.B 0) 0]])],[]⟩],G_nat_Gcd_1 N⟩
theorem aVe(N:Nat):aD Tryz.prog (aVf N):=by induction N with|zero=>(intro _ v r h;cases(show none=some r from h))|succ N ih=>exact xf N (tc (aLt N) (tc ih tn)) [21,5000205] [] 1 Tryz.func205 rfl (by kernel_rfl) fun a=>by kernel_rfl
def dT(rec2:Int->Int->TC->Option TC)(a c:Int)(b:TC):Option TC:=if? (decide (a<c)) (gd? (0<=c) (gd? (c<(b.length:Int)) (gn? b c.toNat fun d=>gd? (0<=a) (gd? (a<(b.length:Int)) (gn? b a.toNat fun e=>gd? (0<=a) (gd? (a<(b.length:Int)) (gn? b a.toNat fun f=>gd? (0<=c) (gd? (c<(b.length:Int)) (gn? (cx b a.toNat d) c.toNat fun g=>ck .i64 (a+1) (ck .i64 (c-1) (gl? b.length (cx (cx b a.toNat d) c.toNat e) (rec2 (a+1) (c-1) (cx (cx b a.toNat d) c.toNat e))))))))))))) (some b)
def dV:Nat->Int->Int->TC->Option TC:=aL [tC,tC,tH] (dT)
def cW(N:Nat)(a:TC):Option TC:=ck .i64 ((a.length:Int)-1) (gl? a.length a (dV N 0 ((a.length:Int)-1) a))
abbrev sV(N:Nat):Sig:=⟨222,⟨[(0,.slw (.B 0) (.i .u8) 0)],[some (.row true (.i .u8) [])],[]⟩,[⟨[],[some (.row true (.i .u8) [])],[]⟩],cW N⟩
theorem sR(N:Nat):aD Tryz.prog (sV N):=xf N tn [] [⟨1,false,⟨[(0,.slw (.B 0) (.i .u8) 0),(2,dd tC),(3,dd tC)],[some (.row true (.i .u8) [])],[]⟩⟩] 1 Tryz.func222 rfl (by kernel_rfl) fun a=>by kernel_rfl
def fL(rec3:Str->Int->Option Str)(b:Str)(c:Int):Option Str:=bd? (if? (decide ((b.length:Int)>0)) (aU b (0) fun d=>some (b,c,((d.toNat:Int)==c))) (some (b,c,false))) fun a=>if? a.2.2 (gd? (1<=a.1.length) (gd? (a.1.length<=a.1.length) (rec3 (cm (a.1.length-1) (df 1 a.1)) a.2.1))) (some a.1)
def cE:Nat->Str->Int->Option Str:=aL [.s,(.i .u8)] (fL)
def gR(N:Nat)(a:Str)(b:Int):Option Str:=cE N a b
abbrev xA(N:Nat):Sig:=⟨229,⟨[(0,dd .s),(1,dd (.i .u8))],[],[]⟩,[⟨[(0,dd .s)],[],[]⟩],gR N⟩
theorem xH(N:Nat):aD Tryz.prog (xA N):=xf N tn [] [⟨4,true,⟨[(0,dd .s),(1,dd (.i .u8)),(13,dd .b)],[],[]⟩⟩,⟨2,false,⟨[(0,dd .s),(1,dd (.i .u8))],[],[]⟩⟩] 0 Tryz.func229 rfl (by kernel_rfl) fun a=>by kernel_rfl
def oQ(N:Nat)(a:Str):Option Unit:=none
abbrev xR(N:Nat):Sig:=⟨230,⟨[(0,dd .s)],[],[]⟩,[],oQ N⟩
theorem xU(N:Nat):aD Tryz.prog (xR N):=by intro _ v r h;cases(show none=some r from h)
def lP(N:Nat)(c d:Str):Option Str:=bd? (if? (c==([]:Str)) (some (c,d,true)) (some (c,d,(d==([]:Str))))) fun a=>if? a.2.2 (some a.1) (bd? (if? ((a.2.1.length:Int)==1) (aU a.2.1 (0) fun e=>some (a.1,a.2.1,decide ((e.toNat:Int)<128))) (some (a.1,a.2.1,false))) fun b=>if? b.2.2 (aU b.2.1 (0) fun f=>bd? (gR N b.1 (f.toNat:Int)) fun g=>some g) (bd? (oQ N b.2.1) fun h=>none))
abbrev aCq(N:Nat):Sig:=⟨227,⟨[(0,dd .s),(1,dd .s)],[],[]⟩,[⟨[(0,dd .s)],[],[]⟩],lP N⟩
theorem aCi(N:Nat):aD Tryz.prog (aCq N):=xf N (tc (xH N) (tc (xU N) tn)) [] [⟨5,true,⟨[(0,dd .s),(1,dd .s),(21,dd .b)],[],[]⟩⟩,⟨2,true,⟨[(0,dd .s),(1,dd .s),(12,dd .b)],[],[]⟩⟩] 0 Tryz.func227 rfl (by kernel_rfl) fun a=>by kernel_rfl
def uI(N:Nat)(a:Str):Option Str:=bd? (lP N a ([0]:Str)) fun b=>some b
abbrev aTp(N:Nat):Sig:=⟨223,⟨[(0,dd .s)],[],[]⟩,[⟨[(0,dd .s)],[],[]⟩],uI N⟩
theorem aUv(N:Nat):aD Tryz.prog (aTp N):=xf N (tc (aCi N) tn) [] [] 0 Tryz.func223 rfl (by kernel_rfl) fun a=>by kernel_rfl
def mA(N:Nat)(rec2:TC->Int->Int->TC->Option Str)(d:TC)(e c:Int)(b:TC):Option Str:=if? (decide (c<e)) (aU d c fun a=>gl? b.length b (gd? (((b.length+[(δ .u8 a),(δ .u8 (a/(2^8))),(δ .u8 (a/(2^16))),(δ .u8 (a/(2^24)))].length)*1)<=140737488355328) (ck .i64 (c+1) (gl? ((b++[(δ .u8 a),(δ .u8 (a/(2^8))),(δ .u8 (a/(2^16))),(δ .u8 (a/(2^24)))]).length) (b++[(δ .u8 a),(δ .u8 (a/(2^8))),(δ .u8 (a/(2^16))),(δ .u8 (a/(2^24)))]) (rec2 d e (c+1) (b++[(δ .u8 a),(δ .u8 (a/(2^8))),(δ .u8 (a/(2^16))),(δ .u8 (a/(2^24)))])))))) (gl? b.length b (bd? (cW N b) fun f=>gl? b.length f (bd? (uI N (aO f)) fun g=>some g)))
def mL(N:Nat):Nat->TC->Int->Int->TC->Option Str:=aL [tF,tC,tC,tH] (mA N)
def dF(N:Nat)(a:TC):Option Str:=mL N N a (a.length:Int) 0 ([]:TC)
abbrev aGl(N:Nat):Sig:=⟨208,⟨[(0,dd tF)],[],[]⟩,[⟨[(0,dd .s)],[],[]⟩],dF N⟩
theorem jV(N:Nat):aD Tryz.prog (aGl N):=xf N (tc (sR N) (tc (aUv N) tn)) [5000222,25] [⟨4,false,⟨[(3,.slw (.O 0) (.i .u8) 0),(6,dd tF),(7,dd tC),(8,dd tC)],[],[some (.row true (.i .u8) [])]⟩⟩] 0 Tryz.func208 rfl (by kernel_rfl) fun a=>by kernel_rfl
def aA7(N:Nat)(a b:Str):Option Str:=bd? (dE N a) fun c=>bd? (dE N b) fun d=>bd? (G_nat_Gcd_1 N c d) fun e=>bd? (dF N e) fun f=>some f
abbrev bBu(N:Nat):Sig:=⟨196,⟨[(0,dd .s),(1,dd .s)],[],[]⟩,[⟨[(0,dd .s)],[],[]⟩],aA7 N⟩
theorem bB6(N:Nat):aD Tryz.prog (bBu N):=xf N (tc (sK N) (tc (aVe N) (tc (jV N) tn))) [12,5000205] [] 0 Tryz.func196 rfl (by kernel_rfl) fun a=>by kernel_rfl
def mX(N:Nat)(a:TM):Option Bool:=if? (nB [2,2] (a.1==false) (nB [2] (a.2.1==([]:Str)) (nB ([]:(List Nat)) (a.2.2==([]:Str)) true))) (some true) (bd? (if? (!(a.2.1==([]:Str))) (if? (!(a.2.2==([]:Str))) (bd? (qK N a.2.1) fun b=>if? b (bd? (qK N a.2.2) fun c=>if? c (bd? (aA7 N a.2.1 a.2.2) fun d=>some (d==([1]:Str))) (some false)) (some false)) (some false)) (some false)) fun e=>some e)
abbrev aV6(N:Nat):Sig:=⟨186,⟨[(0,dd tJ)],[],[]⟩,[⟨[(0,dd .b)],[],[]⟩],mX N⟩
theorem aHw(N:Nat):aD Tryz.prog (aV6 N):=xf N (tc (aV8 N) (tc (bB6 N) tn)) [] [⟨4,true,⟨[(2,dd .b)],[],[]⟩⟩] 0 Tryz.func186 rfl (by kernel_rfl) fun a=>by kernel_rfl
def zG(N:Nat)(a:TM):Option TM:=bd? (if? (a.2.1==([]:Str)) (some (true,a.1,a.2.1,a.2.2,false,([]:Str),([]:Str))) (bd? (mX N (a.1,(a.2.1,a.2.2))) fun c=>some ((!c),a.1,a.2.1,a.2.2,false,([]:Str),([]:Str)))) fun b=>if? b.1 (some (false,(([]:Str),([1]:Str)))) (some (b.2.1,(b.2.2.1,b.2.2.2.1)))
abbrev bHu(N:Nat):Sig:=⟨187,⟨[(0,dd tJ)],[],[]⟩,[⟨[(0,dd tJ)],[],[]⟩],zG N⟩
theorem bGy(N:Nat):aD Tryz.prog (bHu N):=xf N (tc (aHw N) tn) [] [⟨2,true,⟨[(1,.ptr (.O 0) 0),(2,.ptr (.O 1) 0),(10,dd .b)],[],[some (.box [dd .b,dd .s,dd .s]),some (.box [dd .b,dd .s,dd .s])]⟩⟩] 0 Tryz.func187 rfl (by kernel_rfl) fun a=>by kernel_rfl
def sF(N:Nat)(a b:Str):Option Str:=bd? (dE N a) fun c=>bd? (dE N b) fun d=>bd? (cU N c d) fun e=>bd? (dF N e) fun f=>some f
abbrev bB7(N:Nat):Sig:=⟨209,⟨[(0,dd .s),(1,dd .s)],[],[]⟩,[⟨[(0,dd .s)],[],[]⟩],sF N⟩
theorem bCp(N:Nat):aD Tryz.prog (bB7 N):=xf N (tc (sK N) (tc (oC N) (tc (jV N) tn))) [] [] 0 Tryz.func209 rfl (by kernel_rfl) fun a=>by kernel_rfl
def lZ(N:Nat)(rec3:TC->TC->Int->Int->Int->TC->Option TC)(f g:TC)(b h c:Int)(a:TC):Option TC:=if? (decide (c<h)) (bd? (dO N f c) fun d=>bd? (dO N g c) fun e=>gl? a.length a (gd? (((a.length+[(δ .u32 (δ .u64 ((δ .u64 (d+e))+b)))].length)*4)<=140737488355328) (ck .i64 (c+1) (gl? ((a++[(δ .u32 (δ .u64 ((δ .u64 (d+e))+b)))]).length) (a++[(δ .u32 (δ .u64 ((δ .u64 (d+e))+b)))]) (rec3 f g ((δ .u64 ((δ .u64 (d+e))+b))/(2^32)) h (c+1) (a++[(δ .u32 (δ .u64 ((δ .u64 (d+e))+b)))])))))) (gl? a.length a (bd? (aY N a) fun i=>some i))
def mD(N:Nat):Nat->TC->TC->Int->Int->Int->TC->Option TC:=aL [tF,tF,tK,tC,tC,tF] (lZ N)
def kA(N:Nat)(a b:TC):Option TC:=ck .i64 ((Max.max (a.length:Int) (b.length:Int))+1) (mD N N a b 0 ((Max.max (a.length:Int) (b.length:Int))+1) 0 ([]:TC))
abbrev aG0(N:Nat):Sig:=⟨224,⟨[(0,dd tF),(1,dd tF)],[],[]⟩,[⟨[(0,dd tF)],[],[]⟩],kA N⟩
theorem aHb(N:Nat):aD Tryz.prog (aG0 N):=xf N (tc (sT N) (tc (eH N) tn)) [31] [⟨5,false,⟨[(0,dd tF),(1,dd tF),(5,.slw (.O 0) tI 0),(6,dd tK),(14,dd tC),(15,dd tC)],[],[some (.row true tI [])]⟩⟩] 0 Tryz.func224 rfl (by kernel_rfl) fun a=>by kernel_rfl
def aBg(N:Nat)(a b:Str):Option Str:=bd? (dE N a) fun c=>bd? (dE N b) fun d=>bd? (kA N c d) fun e=>bd? (dF N e) fun f=>some f
abbrev bBt(N:Nat):Sig:=⟨210,⟨[(0,dd .s),(1,dd .s)],[],[]⟩,[⟨[(0,dd .s)],[],[]⟩],aBg N⟩
theorem bDc(N:Nat):aD Tryz.prog (bBt N):=xf N (tc (sK N) (tc (aHb N) (tc (jV N) tn))) [] [] 0 Tryz.func210 rfl (by kernel_rfl) fun a=>by kernel_rfl
def aBe(N:Nat)(a b:Str):Option Int:=bd? (dE N a) fun c=>bd? (dE N b) fun d=>bd? (bY N c d) fun e=>some e
abbrev bBh(N:Nat):Sig:=⟨211,⟨[(0,dd .s),(1,dd .s)],[],[]⟩,[⟨[(0,dd tC)],[],[]⟩],aBe N⟩
theorem bDl(N:Nat):aD Tryz.prog (bBh N):=xf N (tc (sK N) (tc (kO N) tn)) [] [] 0 Tryz.func211 rfl (by kernel_rfl) fun a=>by kernel_rfl
def aAw(N:Nat)(c d:Str):Option (Str×Int):=bd? (dE N c) fun a=>bd? (dE N d) fun b=>bd? (bY N a b) fun e=>if? (decide (e<0)) (some (([]:Str),3)) (bd? (dQ N a b) fun f=>bd? (dF N f) fun g=>some (g,0))
abbrev bB0(N:Nat):Sig:=⟨212,⟨[(0,dd .s),(1,dd .s)],[],[]⟩,[⟨[(0,dd .s),(1,dd tC)],[],[]⟩],aAw N⟩
theorem bB9(N:Nat):aD Tryz.prog (bB0 N):=xf N (tc (sK N) (tc (kO N) (tc (vA N) (tc (jV N) tn)))) [] [] 0 Tryz.func212 rfl (by kernel_rfl) fun a=>by kernel_rfl
def fR(N:Nat)(a b:TM):Option TM:=bd? (sF N a.2.1 b.2.2) fun c=>bd? (sF N b.2.1 a.2.2) fun d=>bd? (sF N a.2.2 b.2.2) fun f=>if? (a.1==b.1) (bd? (aBg N c d) fun g=>some (a.1,(g,f))) (bd? (bd? (aBe N c d) fun h=>if? (decide (h<0)) (some (d,c,f,b.1,a.2.1,a.2.2,false,([]:Str),([]:Str))) (some (c,d,f,a.1,a.2.1,a.2.2,false,([]:Str),([]:Str)))) fun e=>bd? (aAw N e.1 e.2.1) fun i=>some (e.2.2.2.1,(i.1,e.2.2.1)))
abbrev aBp(N:Nat):Sig:=⟨197,⟨[(0,dd tJ),(1,dd tJ)],[],[]⟩,[⟨[(0,dd tJ)],[],[]⟩],fR N⟩
theorem aBu(N:Nat):aD Tryz.prog (aBp N):=xf N (tc (bCp N) (tc (bDc N) (tc (bDl N) (tc (bB9 N) tn)))) [] [⟨5,true,⟨[(2,.ptr (.O 0) 0),(4,.ptr (.O 1) 0),(5,dd .s),(6,dd .s),(7,dd .s)],[],[some (.box [dd .b,dd .s,dd .s]),some (.box [dd .b,dd .s,dd .s])]⟩⟩] 0 Tryz.func197 rfl (by kernel_rfl) fun a=>by kernel_rfl
def kN(N:Nat)(a b:TM):Option TM:=bd? (fR N (a.1,(a.2.1,a.2.2)) ((!b.1),(b.2.1,b.2.2))) fun c=>some (c.1,(c.2.1,c.2.2))
abbrev aB4(N:Nat):Sig:=⟨188,⟨[(0,dd tJ),(1,dd tJ)],[],[]⟩,[⟨[(0,dd tJ)],[],[]⟩],kN N⟩
theorem aBq(N:Nat):aD Tryz.prog (aB4 N):=xf N (tc (aBu N) tn) [] [] 0 Tryz.func188 rfl (by kernel_rfl) fun a=>by kernel_rfl
def wE(N:Nat)(a b:TM):Option Int:=bd? (zG N (a.1,(a.2.1,a.2.2))) fun c=>bd? (zG N (b.1,(b.2.1,b.2.2))) fun d=>bd? (kN N (c.1,(c.2.1,c.2.2)) (d.1,(d.2.1,d.2.2))) fun e=>if? (e.2.1==([]:Str)) (some (0)) (if? e.1 (some (-1)) (some (1)))
abbrev bBm(N:Nat):Sig:=⟨176,⟨[(0,dd tJ),(1,dd tJ)],[],[]⟩,[⟨[(0,dd tC)],[],[]⟩],wE N⟩
theorem bBq(N:Nat):aD Tryz.prog (bBm N):=xf N (tc (bGy N) (tc (aBq N) tn)) [] [] 0 Tryz.func176 rfl (by kernel_rfl) fun a=>by kernel_rfl
def lG(N:Nat)(a:Int):Option Bool:=bd? (if? (decide (a≥(-1000))) (some (decide (a<=2000))) (some false)) fun b=>some b
abbrev aIr(N:Nat):Sig:=⟨174,⟨[(0,dd tC)],[],[]⟩,[⟨[(0,dd .b)],[],[]⟩],lG N⟩
theorem aI4(N:Nat):aD Tryz.prog (aIr N):=xf N tn [] [⟨1,true,⟨[(2,dd .b)],[],[]⟩⟩] 0 Tryz.func174 rfl (by kernel_rfl) fun a=>by kernel_rfl
def gC(N:Nat)(a:TM):Option Bool:=bd? (bd? (mX N (a.1,(a.2.1,a.2.2))) fun b=>if? b (some (!a.1)) (some false)) fun c=>some c
abbrev aGk(N:Nat):Sig:=⟨175,⟨[(0,dd tJ)],[],[]⟩,[⟨[(0,dd .b)],[],[]⟩],gC N⟩
theorem aG3(N:Nat):aD Tryz.prog (aGk N):=xf N (tc (aHw N) tn) [] [⟨1,true,⟨[(2,dd .b)],[],[]⟩⟩] 0 Tryz.func175 rfl (by kernel_rfl) fun a=>by kernel_rfl
def lJ(N:Nat)(rec3:TE->Int->Int->TE->Option Int)(e:TE)(f a:Int)(d:TE):Option Int:=if? (decide (a<f)) (aU e a fun b=>bd? (lG N b.1) fun h=>if? (!h) (some (3)) (bd? (gC N (b.2.1,(b.2.2.1,b.2.2.2))) fun i=>if? (!i) (some (1)) (bd? (if? (decide (a>0)) (ck .i64 (a-1) (aU d (a-1) fun j=>if? (decide (b.1<=j.1)) (some (e,f,a,true,d)) (ck .i64 (a-1) (aU d (a-1) fun g=>bd? (wE N (b.2.1,(b.2.2.1,b.2.2.2)) (g.2.1,(g.2.2.1,g.2.2.2))) fun k=>some (e,f,a,decide (k<0),d))))) (some (e,f,a,false,d))) fun c=>if? c.2.2.2.1 (some (1)) (ck .i64 (c.2.2.1+1) (rec3 c.1 c.2.1 (c.2.2.1+1) c.2.2.2.2))))) (some (0))
def gY(N:Nat):Nat->TE->Int->Int->TE->Option Int:=aL [(.sl tE),tC,tC,(.sl tE)] (lJ N)
def pX(N:Nat)(a:TE):Option Int:=bd? (if? (decide ((a.length:Int)<1)) (some (true,a)) (some (decide ((a.length:Int)>16),a))) fun b=>if? b.1 (some (2)) (gY N N b.2 (b.2.length:Int) 0 b.2)
abbrev aNu(N:Nat):Sig:=⟨150,⟨[(0,dd (.w (.sl tE)))],[],[]⟩,[⟨[(0,dd tC)],[],[]⟩],pX N⟩
theorem aN7(N:Nat):aD Tryz.prog (aNu N):=xf N (tc (aI4 N) (tc (aG3 N) (tc (bBq N) tn))) [] [⟨16,true,⟨[(1,.ptr (.O 0) 0),(16,dd (.sl tE)),(17,dd tC),(18,dd tC),(33,dd .b)],[],[some (.box [dd (.sl tE)])]⟩⟩,⟨7,false,⟨[(1,.ptr (.O 0) 0),(16,dd (.sl tE)),(17,dd tC),(18,dd tC)],[],[some (.box [dd (.sl tE)])]⟩⟩,⟨3,true,⟨[(1,.ptr (.O 0) 0),(14,dd .b)],[],[some (.box [dd (.sl tE)])]⟩⟩] 0 Tryz.func150 rfl (by kernel_rfl) fun a=>by kernel_rfl
def cZ(N:Nat)(a:TH):Option Bool:=bd? (if? (decide (a.2.1<0)) (some (true,a.1,a.2.1,a.2.2.1,a.2.2.2.1,a.2.2.2.2.1,a.2.2.2.2.2.1,a.2.2.2.2.2.2.1,a.2.2.2.2.2.2.2)) (if? (decide (a.2.1≥40)) (some (true,a.1,a.2.1,a.2.2.1,a.2.2.2.1,a.2.2.2.2.1,a.2.2.2.2.2.1,a.2.2.2.2.2.2.1,a.2.2.2.2.2.2.2)) (if? (decide (a.2.2.1<0)) (some (true,a.1,a.2.1,a.2.2.1,a.2.2.2.1,a.2.2.2.2.1,a.2.2.2.2.2.1,a.2.2.2.2.2.2.1,a.2.2.2.2.2.2.2)) (if? (decide (a.2.2.1>1099511627776)) (some (true,a.1,a.2.1,a.2.2.1,a.2.2.2.1,a.2.2.2.2.1,a.2.2.2.2.2.1,a.2.2.2.2.2.2.1,a.2.2.2.2.2.2.2)) (if? (decide (a.2.2.2.1<0)) (some (true,a.1,a.2.1,a.2.2.1,a.2.2.2.1,a.2.2.2.2.1,a.2.2.2.2.2.1,a.2.2.2.2.2.2.1,a.2.2.2.2.2.2.2)) (if? (decide (a.2.2.2.1>14609)) (some (true,a.1,a.2.1,a.2.2.1,a.2.2.2.1,a.2.2.2.2.1,a.2.2.2.2.2.1,a.2.2.2.2.2.2.1,a.2.2.2.2.2.2.2)) (if? (decide (a.2.2.2.2.1<0)) (some (true,a.1,a.2.1,a.2.2.1,a.2.2.2.1,a.2.2.2.2.1,a.2.2.2.2.2.1,a.2.2.2.2.2.2.1,a.2.2.2.2.2.2.2)) (if? (decide (a.2.2.2.2.2.1<=a.2.2.2.2.1)) (some (true,a.1,a.2.1,a.2.2.1,a.2.2.2.1,a.2.2.2.2.1,a.2.2.2.2.2.1,a.2.2.2.2.2.2.1,a.2.2.2.2.2.2.2)) (some (decide (a.2.2.2.2.2.1>1402560),a.1,a.2.1,a.2.2.1,a.2.2.2.1,a.2.2.2.2.1,a.2.2.2.2.2.1,a.2.2.2.2.2.2.1,a.2.2.2.2.2.2.2)))))))))) fun b=>if? b.1 (some false) (if? (b.2.1==1) (bd? (if? (b.2.2.2.2.2.2.2.1==0) (bd? (pX N b.2.2.2.2.2.2.2.2) fun c=>some (c==0)) (some false)) fun d=>some d) (bd? (if? ((fM (oT (oT ([]:(List TL)) 2 1000) 3 960) b.2.1).isSome) (if? ((b.2.2.2.2.2.2.2.2.length:Int)==0) (ck .i64 (-((fM (oT (oT ([]:(List TL)) 2 1000) 3 960) b.2.1).getD 0)) (if? (decide (b.2.2.2.2.2.2.2.1≥(-((fM (oT (oT ([]:(List TL)) 2 1000) 3 960) b.2.1).getD 0)))) (some (decide (b.2.2.2.2.2.2.2.1<=((fM (oT (oT ([]:(List TL)) 2 1000) 3 960) b.2.1).getD 0)))) (some false))) (some false)) (some false)) fun e=>some e))
abbrev aI8(N:Nat):Sig:=⟨132,⟨[(0,dd tA)],[],[]⟩,[⟨[(0,dd .b)],[],[]⟩],cZ N⟩
theorem aIf(N:Nat):aD Tryz.prog (aI8 N):=xf N (tc (aN7 N) tn) [] [⟨9,true,⟨[(2,dd .b)],[],[]⟩⟩,⟨6,true,⟨[(2,dd .b)],[],[]⟩⟩,⟨2,true,⟨[(1,.ptr (.O 0) 0),(50,dd .b)],[],[some (.box [dd tC,dd tC,dd tC,dd tC,dd tC,dd tC,dd tC,dd (.sl tE)])]⟩⟩] 0 Tryz.func132 rfl (by kernel_rfl) fun a=>by kernel_rfl
def dX(N:Nat)(a b:TH):Option Int:=bd? (cB N a.2.1 b.2.1) fun c=>if? (c !=0) (some c) (bd? (cB N a.2.2.1 b.2.2.1) fun d=>some d)
abbrev aI2(N:Nat):Sig:=⟨121,⟨[(0,dd tA),(1,dd tA)],[],[]⟩,[⟨[(0,dd tC)],[],[]⟩],dX N⟩
theorem qU(N:Nat):aD Tryz.prog (aI2 N):=xf N (tc (oD N) tn) [] [] 0 Tryz.func121 rfl (by kernel_rfl) fun a=>by kernel_rfl
def fE(N:Nat)(rec2:TA->TA->Int->Int->Option Int)(e f:TA)(g b:Int):Option Int:=if? (decide (b<g)) (aU f b fun a=>bd? (bd? (cZ N (a.1,(a.2.1,(a.2.2.1,(a.2.2.2.1,(a.2.2.2.2.1,(a.2.2.2.2.2.1,(a.2.2.2.2.2.2.1,a.2.2.2.2.2.2.2)))))))) fun h=>if? (!h) (some (e,f,g,b,true)) (if? (decide (b>0)) (ck .i64 (b-1) (aU e (b-1) fun c=>bd? (dX N (c.1,(c.2.1,(c.2.2.1,(c.2.2.2.1,(c.2.2.2.2.1,(c.2.2.2.2.2.1,(c.2.2.2.2.2.2.1,c.2.2.2.2.2.2.2))))))) (a.1,(a.2.1,(a.2.2.1,(a.2.2.2.1,(a.2.2.2.2.1,(a.2.2.2.2.2.1,(a.2.2.2.2.2.2.1,a.2.2.2.2.2.2.2)))))))) fun i=>some (e,f,g,b,decide (i≥0)))) (some (e,f,g,b,false)))) fun d=>if? d.2.2.2.2 (some (1)) (ck .i64 (d.2.2.2.1+1) (rec2 d.1 d.2.1 d.2.2.1 (d.2.2.2.1+1)))) (some (0))
def iJ(N:Nat):Nat->TA->TA->Int->Int->Option Int:=aL [(.sl tA),(.sl tA),tC,tC] (fE N)
def gX(N:Nat)(a:TA):Option Int:=if? (decide ((a.length:Int)>400)) (some (2)) (iJ N N a a (a.length:Int) 0)
abbrev aIh(N:Nat):Sig:=⟨87,⟨[(0,dd (.sl tA))],[],[]⟩,[⟨[(0,dd tC)],[],[]⟩],gX N⟩
theorem yD(N:Nat):aD Tryz.prog (aIh N):=xf N (tc (aIf N) (tc (qU N) tn)) [] [⟨11,true,⟨[(0,dd (.sl tA)),(8,dd (.sl tA)),(9,dd tC),(10,dd tC),(31,dd .b)],[],[]⟩⟩,⟨6,false,⟨[(0,dd (.sl tA)),(8,dd (.sl tA)),(9,dd tC),(10,dd tC)],[],[]⟩⟩] 0 Tryz.func87 rfl (by kernel_rfl) fun a=>by kernel_rfl
def gM(N:Nat)(a:Int):Option TA:=if? (decide (a<0)) (none) (ck .i64 (0-((0:Nat):Int)) (ck .i64 (a-(0-((0:Nat):Int))) (if? (decide ((a-(0-((0:Nat):Int)))>0)) (gd? (0<(a-(0-((0:Nat):Int)))) (gd? (((0+(a-(0-((0:Nat):Int))).toNat)*80)<=140737488355328) (gd? (((0:Nat):Int).toNat<=(a-(0-((0:Nat):Int))).toNat) (gl? (((0:Nat):Int).toNat) (cm ((0:Nat):Int).toNat (ω (a-(0-((0:Nat):Int))).toNat (0,(0,(0,(0,(0,(0,(0,([]:TE)))))))):TA)) (some (cm ((0:Nat):Int).toNat (ω (a-(0-((0:Nat):Int))).toNat (0,(0,(0,(0,(0,(0,(0,([]:TE)))))))):TA))))))) (some ([]:TA)))))
abbrev qE(N:Nat):Sig:=⟨143,⟨[(0,.fln tA),(1,dd tC)],[],[]⟩,[⟨[(0,.slw (.O 0) tA 0)],[],[some (.row true tA [])]⟩],gM N⟩
theorem qG(N:Nat):aD Tryz.prog (qE N):=xf N tn [22] [] 0 Tryz.func143 rfl (by kernel_rfl) fun a=>by kernel_rfl
def nC(f:TV->Int->Int->TA->Option TA)(d:TV)(e b:Int)(a:TA):Option TA:=if? (decide (b<e)) (aU d b fun c=>gl? a.length a (gd? (((a.length+c.length)*80)<=140737488355328) (ck .i64 (b+1) (gl? ((a++c).length) (a++c) (f d e (b+1) (a++c)))))) (gl? a.length a (some a))
def nA:Nat->TV->Int->Int->TA->Option TA:=aL [tM,tC,tC,(.sl tA)] (nC)
def nF(N:Nat)(rec2:TV->Int->TV->Int->Int->Option TA)(c:TV)(a:Int)(f:TV)(g b:Int):Option TA:=if? (decide (b<g)) (aU f b fun d=>ck .i64 (a+(d.length:Int)) (if? (decide ((a+(d.length:Int))<0)) (none) (ck .i64 (b+1) (rec2 c (a+(d.length:Int)) f g (b+1))))) (bd? (gM N a) fun e=>gl? e.length e (nA N c (c.length:Int) 0 e))
def mY(N:Nat):Nat->TV->Int->TV->Int->Int->Option TA:=aL [tM,tC,tM,tC,tC] (nF N)
def fO(N:Nat)(a:TV):Option TA:=mY N N a 0 a (a.length:Int) 0
abbrev oW(N:Nat):Sig:=⟨118,⟨[(0,dd tM)],[],[]⟩,[⟨[(0,.slw (.O 0) tA 0)],[],[some (.row true tA [])]⟩],fO N⟩
theorem oV(N:Nat):aD Tryz.prog (oW N):=xf N (tc (qG N) tn) [33] [⟨14,false,⟨[(6,.slw (.O 0) tA 0),(25,dd tM),(26,dd tC),(27,dd tC)],[],[some (.row true tA [])]⟩⟩,⟨4,false,⟨[(0,dd tM),(3,dd tC),(9,dd tM),(10,dd tC),(11,dd tC)],[],[]⟩⟩] 0 Tryz.func118 rfl (by kernel_rfl) fun a=>by kernel_rfl
def fC(N:Nat)(a b:TH):Option Int:=bd? (dX N (a.1,(a.2.1,(a.2.2.1,(a.2.2.2.1,(a.2.2.2.2.1,(a.2.2.2.2.2.1,(a.2.2.2.2.2.2.1,a.2.2.2.2.2.2.2))))))) (b.1,(b.2.1,(b.2.2.1,(b.2.2.2.1,(b.2.2.2.2.1,(b.2.2.2.2.2.1,(b.2.2.2.2.2.2.1,b.2.2.2.2.2.2.2)))))))) fun c=>some c
abbrev aD3(N:Nat):Sig:=⟨120,⟨[(0,dd tA),(1,dd tA)],[],[]⟩,[⟨[(0,dd tC)],[],[]⟩],fC N⟩
theorem uJ(N:Nat):aD Tryz.prog (aD3 N):=xf N (tc (qU N) tn) [] [] 0 Tryz.func120 rfl (by kernel_rfl) fun a=>by kernel_rfl
def iX(N:Nat)(k:Int->Int->Int->TA->Option TA)(l:Int->Int->Int->Int->TA->Option TA)(h i:Int)(j d:Int)(e:TA):Option TA:=bd? (if? (decide (d>h)) (gd? (0<=d) (gd? (d<(e.length:Int)) (gn? e d.toNat fun f=>ck .i64 (d-1) (gd? (0<=(d-1)) (gd? ((d-1)<(e.length:Int)) (gn? e ((d-1).toNat) fun g=>bd? (fC N (f.1,(f.2.1,(f.2.2.1,(f.2.2.2.1,(f.2.2.2.2.1,(f.2.2.2.2.2.1,(f.2.2.2.2.2.2.1,f.2.2.2.2.2.2.2))))))) (g.1,(g.2.1,(g.2.2.1,(g.2.2.2.1,(g.2.2.2.2.1,(g.2.2.2.2.2.1,(g.2.2.2.2.2.2.1,g.2.2.2.2.2.2.2)))))))) fun m=>gl? e.length e (some (h,i,j,d,decide (m<0),e)))))))) (gl? e.length e (some (h,i,j,d,false,e)))) fun a=>if? a.2.2.2.2.1 (ck .i64 (a.2.2.2.1-1) (ck .i64 (a.2.2.2.1-1) (gd? (0<=(a.2.2.2.1-1)) (gd? ((a.2.2.2.1-1)<(a.2.2.2.2.2.length:Int)) (gn? a.2.2.2.2.2 ((a.2.2.2.1-1).toNat) fun b=>gd? (0<=a.2.2.2.1) (gd? (a.2.2.2.1<(a.2.2.2.2.2.length:Int)) (gn? a.2.2.2.2.2 a.2.2.2.1.toNat fun c=>gd? (0<=a.2.2.2.1) (gd? (a.2.2.2.1<(a.2.2.2.2.2.length:Int)) (gn? a.2.2.2.2.2 a.2.2.2.1.toNat fun n=>gd? (0<=(a.2.2.2.1-1)) (gd? ((a.2.2.2.1-1)<(a.2.2.2.2.2.length:Int)) (gn? (cx a.2.2.2.2.2 a.2.2.2.1.toNat (b.1,(b.2.1,(b.2.2.1,(b.2.2.2.1,(b.2.2.2.2.1,(b.2.2.2.2.2.1,(b.2.2.2.2.2.2.1,b.2.2.2.2.2.2.2)))))))) ((a.2.2.2.1-1).toNat) fun o=>ck .i64 (a.2.2.2.1-1) (gl? a.2.2.2.2.2.length (cx (cx a.2.2.2.2.2 a.2.2.2.1.toNat (b.1,(b.2.1,(b.2.2.1,(b.2.2.2.1,(b.2.2.2.2.1,(b.2.2.2.2.2.1,(b.2.2.2.2.2.2.1,b.2.2.2.2.2.2.2)))))))) (a.2.2.2.1-1).toNat (c.1,(c.2.1,(c.2.2.1,(c.2.2.2.1,(c.2.2.2.2.1,(c.2.2.2.2.2.1,(c.2.2.2.2.2.2.1,c.2.2.2.2.2.2.2)))))))) (l a.1 a.2.1 a.2.2.1 (a.2.2.2.1-1) (cx (cx a.2.2.2.2.2 a.2.2.2.1.toNat (b.1,(b.2.1,(b.2.2.1,(b.2.2.2.1,(b.2.2.2.2.1,(b.2.2.2.2.2.1,(b.2.2.2.2.2.2.1,b.2.2.2.2.2.2.2)))))))) (a.2.2.2.1-1).toNat (c.1,(c.2.1,(c.2.2.1,(c.2.2.2.1,(c.2.2.2.2.1,(c.2.2.2.2.2.1,(c.2.2.2.2.2.2.1,c.2.2.2.2.2.2.2))))))))))))))))))))) (ck .i64 (a.2.2.1+1) (gl? a.2.2.2.2.2.length a.2.2.2.2.2 (k a.1 a.2.1 (a.2.2.1+1) a.2.2.2.2.2)))
def jB(N:Nat)(a:Int->Int->Int->TA->Option TA):Nat->Int->Int->Int->Int->TA->Option TA:=aL [tC,tC,tC,tC,(.sl tA)] (iX N a)
def iY(N:Nat)(d:Int->Int->Int->TA->Option TA)(e c b:Int)(a:TA):Option TA:=if? (decide (b<c)) (gl? a.length a (jB N d N e c b b a)) (some a)
def iW(N:Nat):Nat->Int->Int->Int->TA->Option TA:=aL [tC,tC,tC,(.sl tA)] (iY N)
def bW(N:Nat)(a c:Int)(b:TA):Option TA:=ck .i64 (a+1) (gl? b.length b (iW N N a c (a+1) b))
abbrev jQ(N:Nat):Sig:=⟨169,⟨[(0,.slw (.B 0) tA 0),(1,dd tC),(2,dd tC),(3,.clo 120 [])],[some (.row true tA [])],[]⟩,[⟨[],[some (.row true tA [])],[]⟩],bW N⟩
theorem jR(N:Nat):aD Tryz.prog (jQ N):=xf N (tc (uJ N) tn) [] [⟨8,true,⟨[(0,.slw (.B 0) tA 0),(1,dd tC),(2,dd tC),(3,.clo 120 []),(8,dd tC),(9,dd tC),(34,dd .b)],[some (.row true tA [])],[]⟩⟩,⟨6,false,⟨[(0,.slw (.B 0) tA 0),(1,dd tC),(2,dd tC),(3,.clo 120 []),(8,dd tC),(9,dd tC)],[some (.row true tA [])],[]⟩⟩,⟨1,false,⟨[(0,.slw (.B 0) tA 0),(1,dd tC),(2,dd tC),(3,.clo 120 []),(8,dd tC)],[some (.row true tA [])],[]⟩⟩] 1 Tryz.func169 rfl (by kernel_rfl) fun a=>by kernel_rfl
def lD(h:Int->Int->Int->Int->TA->Option TA)(d f:Int)(g a:Int)(e:TA):Option TA:=if? (decide (a<g)) (ck .i64 (d+a) (ck .i64 (f+a) (ck .i64 (f+a) (gd? (0<=(f+a)) (gd? ((f+a)<(e.length:Int)) (gn? e ((f+a).toNat) fun b=>ck .i64 (d+a) (gd? (0<=(d+a)) (gd? ((d+a)<(e.length:Int)) (gn? e ((d+a).toNat) fun c=>gd? (0<=(d+a)) (gd? ((d+a)<(e.length:Int)) (gn? e ((d+a).toNat) fun i=>gd? (0<=(f+a)) (gd? ((f+a)<(e.length:Int)) (gn? (cx e (d+a).toNat (b.1,(b.2.1,(b.2.2.1,(b.2.2.2.1,(b.2.2.2.2.1,(b.2.2.2.2.2.1,(b.2.2.2.2.2.2.1,b.2.2.2.2.2.2.2)))))))) ((f+a).toNat) fun j=>ck .i64 (a+1) (gl? e.length (cx (cx e (d+a).toNat (b.1,(b.2.1,(b.2.2.1,(b.2.2.2.1,(b.2.2.2.2.1,(b.2.2.2.2.2.1,(b.2.2.2.2.2.2.1,b.2.2.2.2.2.2.2)))))))) (f+a).toNat (c.1,(c.2.1,(c.2.2.1,(c.2.2.2.1,(c.2.2.2.2.1,(c.2.2.2.2.2.1,(c.2.2.2.2.2.2.1,c.2.2.2.2.2.2.2)))))))) (h d f g (a+1) (cx (cx e (d+a).toNat (b.1,(b.2.1,(b.2.2.1,(b.2.2.2.1,(b.2.2.2.2.1,(b.2.2.2.2.2.1,(b.2.2.2.2.2.2.1,b.2.2.2.2.2.2.2)))))))) (f+a).toNat (c.1,(c.2.1,(c.2.2.1,(c.2.2.2.1,(c.2.2.2.2.1,(c.2.2.2.2.2.1,(c.2.2.2.2.2.2.1,c.2.2.2.2.2.2.2))))))))))))))))))))))) (some e)
def lA:Nat->Int->Int->Int->Int->TA->Option TA:=aL [tC,tC,tC,tC,(.sl tA)] (lD)
def bO(N:Nat)(b c d:Int)(a:TA):Option TA:=gl? a.length a (lA N b c d 0 a)
abbrev nE(N:Nat):Sig:=⟨194,⟨[(0,.slw (.B 0) tA 0),(1,dd tC),(2,dd tC),(3,dd tC),(4,.clo 120 [])],[some (.row true tA [])],[]⟩,[⟨[],[some (.row true tA [])],[]⟩],bO N⟩
theorem nD(N:Nat):aD Tryz.prog (nE N):=xf N tn [] [⟨1,false,⟨[(0,.slw (.B 0) tA 0),(1,dd tC),(2,dd tC),(3,dd tC),(10,dd tC)],[some (.row true tA [])],[]⟩⟩] 1 Tryz.func194 rfl (by kernel_rfl) fun a=>by kernel_rfl
def oB(N:Nat)(e:Int->Int->Int->TA->Option TA)(b a c:Int)(d:TA):Option TA:=if? (a !=c) (if? (decide (a>c)) (ck .i64 (b-a) (gl? d.length d (bd? (bO N (b-a) b c d) fun f=>ck .i64 (a-c) (gl? d.length f (e b (a-c) c f))))) (ck .i64 (b-a) (ck .i64 (b+c) (ck .i64 ((b+c)-a) (gl? d.length d (bd? (bO N (b-a) ((b+c)-a) a d) fun g=>ck .i64 (c-a) (gl? d.length g (e b a (c-a) g)))))))) (ck .i64 (b-a) (gl? d.length d (bd? (bO N (b-a) b a d) fun h=>some h)))
def nV(N:Nat):Nat->Int->Int->Int->TA->Option TA:=aL [tC,tC,tC,(.sl tA)] (oB N)
def gG(N:Nat)(c a d:Int)(b:TA):Option TA:=ck .i64 (a-c) (ck .i64 (d-a) (gl? b.length b (nV N N a (a-c) (d-a) b)))
abbrev pI(N:Nat):Sig:=⟨185,⟨[(0,.slw (.B 0) tA 0),(1,dd tC),(2,dd tC),(3,dd tC),(4,.clo 120 [])],[some (.row true tA [])],[]⟩,[⟨[],[some (.row true tA [])],[]⟩],gG N⟩
theorem pP(N:Nat):aD Tryz.prog (pI N):=xf N (tc (nD N) tn) [5000194] [⟨3,false,⟨[(0,.slw (.B 0) tA 0),(2,dd tC),(4,.clo 120 []),(10,dd tC),(11,dd tC)],[some (.row true tA [])],[]⟩⟩] 1 Tryz.func185 rfl (by kernel_rfl) fun a=>by kernel_rfl
def lX(f:Int->Int->TA->Option TA)(e b:Int)(d:TA):Option TA:=ck .i64 (e-1) (if? (decide (b<(e-1))) (ck .i64 (b+1) (ck .i64 (b+1) (gd? (0<=(b+1)) (gd? ((b+1)<(d.length:Int)) (gn? d ((b+1).toNat) fun a=>gd? (0<=b) (gd? (b<(d.length:Int)) (gn? d b.toNat fun c=>gd? (0<=b) (gd? (b<(d.length:Int)) (gn? d b.toNat fun g=>gd? (0<=(b+1)) (gd? ((b+1)<(d.length:Int)) (gn? (cx d b.toNat (a.1,(a.2.1,(a.2.2.1,(a.2.2.2.1,(a.2.2.2.2.1,(a.2.2.2.2.2.1,(a.2.2.2.2.2.2.1,a.2.2.2.2.2.2.2)))))))) ((b+1).toNat) fun h=>ck .i64 (b+1) (gl? d.length (cx (cx d b.toNat (a.1,(a.2.1,(a.2.2.1,(a.2.2.2.1,(a.2.2.2.2.1,(a.2.2.2.2.2.1,(a.2.2.2.2.2.2.1,a.2.2.2.2.2.2.2)))))))) (b+1).toNat (c.1,(c.2.1,(c.2.2.1,(c.2.2.2.1,(c.2.2.2.2.1,(c.2.2.2.2.2.1,(c.2.2.2.2.2.2.1,c.2.2.2.2.2.2.2)))))))) (f e (b+1) (cx (cx d b.toNat (a.1,(a.2.1,(a.2.2.1,(a.2.2.2.1,(a.2.2.2.2.1,(a.2.2.2.2.2.1,(a.2.2.2.2.2.2.1,a.2.2.2.2.2.2.2)))))))) (b+1).toNat (c.1,(c.2.1,(c.2.2.1,(c.2.2.2.1,(c.2.2.2.2.1,(c.2.2.2.2.2.1,(c.2.2.2.2.2.2.1,c.2.2.2.2.2.2.2))))))))))))))))))))) (some d))
def mH:Nat->Int->Int->TA->Option TA:=aL [tC,tC,(.sl tA)] (lX)
def mG(N:Nat)(g:Int->Int->Int->TA->Option TA)(f b c:Int)(a:TA):Option TA:=if? (decide (b<c)) (ck .i64 (b+c) (gd? (0<=(δ .i64 ((δ .u64 (b+c))/(2^1)))) (gd? ((δ .i64 ((δ .u64 (b+c))/(2^1)))<(a.length:Int)) (gn? a ((δ .i64 ((δ .u64 (b+c))/(2^1))).toNat) fun d=>gd? (0<=f) (gd? (f<(a.length:Int)) (gn? a f.toNat fun e=>bd? (fC N (d.1,(d.2.1,(d.2.2.1,(d.2.2.2.1,(d.2.2.2.2.1,(d.2.2.2.2.2.1,(d.2.2.2.2.2.2.1,d.2.2.2.2.2.2.2))))))) (e.1,(e.2.1,(e.2.2.1,(e.2.2.2.1,(e.2.2.2.2.1,(e.2.2.2.2.2.1,(e.2.2.2.2.2.2.1,e.2.2.2.2.2.2.2)))))))) fun h=>if? (decide (h<0)) (ck .i64 ((δ .i64 ((δ .u64 (b+c))/(2^1)))+1) (gl? a.length a (g f ((δ .i64 ((δ .u64 (b+c))/(2^1)))+1) c a))) (gl? a.length a (g f b (δ .i64 ((δ .u64 (b+c))/(2^1))) a)))))))) (gl? a.length a (mH N b f a))
def lS(N:Nat):Nat->Int->Int->Int->TA->Option TA:=aL [tC,tC,tC,(.sl tA)] (mG N)
def mJ(f:Int->Int->TA->Option TA)(e b:Int)(d:TA):Option TA:=if? (decide (b>e)) (ck .i64 (b-1) (ck .i64 (b-1) (gd? (0<=(b-1)) (gd? ((b-1)<(d.length:Int)) (gn? d ((b-1).toNat) fun a=>gd? (0<=b) (gd? (b<(d.length:Int)) (gn? d b.toNat fun c=>gd? (0<=b) (gd? (b<(d.length:Int)) (gn? d b.toNat fun g=>gd? (0<=(b-1)) (gd? ((b-1)<(d.length:Int)) (gn? (cx d b.toNat (a.1,(a.2.1,(a.2.2.1,(a.2.2.2.1,(a.2.2.2.2.1,(a.2.2.2.2.2.1,(a.2.2.2.2.2.2.1,a.2.2.2.2.2.2.2)))))))) ((b-1).toNat) fun h=>ck .i64 (b-1) (gl? d.length (cx (cx d b.toNat (a.1,(a.2.1,(a.2.2.1,(a.2.2.2.1,(a.2.2.2.2.1,(a.2.2.2.2.2.1,(a.2.2.2.2.2.2.1,a.2.2.2.2.2.2.2)))))))) (b-1).toNat (c.1,(c.2.1,(c.2.2.1,(c.2.2.2.1,(c.2.2.2.2.1,(c.2.2.2.2.2.1,(c.2.2.2.2.2.2.1,c.2.2.2.2.2.2.2)))))))) (f e (b-1) (cx (cx d b.toNat (a.1,(a.2.1,(a.2.2.1,(a.2.2.2.1,(a.2.2.2.2.1,(a.2.2.2.2.2.1,(a.2.2.2.2.2.2.1,a.2.2.2.2.2.2.2)))))))) (b-1).toNat (c.1,(c.2.1,(c.2.2.1,(c.2.2.2.1,(c.2.2.2.2.1,(c.2.2.2.2.2.1,(c.2.2.2.2.2.2.1,c.2.2.2.2.2.2.2))))))))))))))))))))) (some d)
def mC:Nat->Int->Int->TA->Option TA:=aL [tC,tC,(.sl tA)] (mJ)
def mN(N:Nat)(g:Int->Int->Int->TA->Option TA)(f b c:Int)(a:TA):Option TA:=if? (decide (b<c)) (ck .i64 (b+c) (gd? (0<=f) (gd? (f<(a.length:Int)) (gn? a f.toNat fun d=>gd? (0<=(δ .i64 ((δ .u64 (b+c))/(2^1)))) (gd? ((δ .i64 ((δ .u64 (b+c))/(2^1)))<(a.length:Int)) (gn? a ((δ .i64 ((δ .u64 (b+c))/(2^1))).toNat) fun e=>bd? (fC N (d.1,(d.2.1,(d.2.2.1,(d.2.2.2.1,(d.2.2.2.2.1,(d.2.2.2.2.2.1,(d.2.2.2.2.2.2.1,d.2.2.2.2.2.2.2))))))) (e.1,(e.2.1,(e.2.2.1,(e.2.2.2.1,(e.2.2.2.2.1,(e.2.2.2.2.2.1,(e.2.2.2.2.2.2.1,e.2.2.2.2.2.2.2)))))))) fun h=>if? (!decide (h<0)) (ck .i64 ((δ .i64 ((δ .u64 (b+c))/(2^1)))+1) (gl? a.length a (g f ((δ .i64 ((δ .u64 (b+c))/(2^1)))+1) c a))) (gl? a.length a (g f b (δ .i64 ((δ .u64 (b+c))/(2^1))) a)))))))) (gl? a.length a (mC N b f a))
def lR(N:Nat):Nat->Int->Int->Int->TA->Option TA:=aL [tC,tC,tC,(.sl tA)] (mN N)
def mP(N:Nat)(G_slices_symMergeCmpFunc_Version:Nat->Int->Int->Int->TA->Option TA)(q:Int->Int->Int->Int->Int->Int->Int->Int->TA->Option TA)(n k:Int)(o p:Int)(l b:Int)(g m:Int)(e:TA):Option TA:=if? (decide (b<g)) (ck .i64 (b+g) (ck .i64 (m-(δ .i64 ((δ .u64 (b+g))/(2^1)))) (gd? (0<=(m-(δ .i64 ((δ .u64 (b+g))/(2^1))))) (gd? ((m-(δ .i64 ((δ .u64 (b+g))/(2^1))))<(e.length:Int)) (gn? e ((m-(δ .i64 ((δ .u64 (b+g))/(2^1)))).toNat) fun h=>gd? (0<=(δ .i64 ((δ .u64 (b+g))/(2^1)))) (gd? ((δ .i64 ((δ .u64 (b+g))/(2^1)))<(e.length:Int)) (gn? e ((δ .i64 ((δ .u64 (b+g))/(2^1))).toNat) fun i=>bd? (fC N (h.1,(h.2.1,(h.2.2.1,(h.2.2.2.1,(h.2.2.2.2.1,(h.2.2.2.2.2.1,(h.2.2.2.2.2.2.1,h.2.2.2.2.2.2.2))))))) (i.1,(i.2.1,(i.2.2.1,(i.2.2.2.1,(i.2.2.2.2.1,(i.2.2.2.2.2.1,(i.2.2.2.2.2.2.1,i.2.2.2.2.2.2.2)))))))) fun t=>if? (!decide (t<0)) (ck .i64 ((δ .i64 ((δ .u64 (b+g))/(2^1)))+1) (gl? e.length e (q n k o p l ((δ .i64 ((δ .u64 (b+g))/(2^1)))+1) g m e))) (gl? e.length e (q n k o p l b (δ .i64 ((δ .u64 (b+g))/(2^1))) m e))))))))) (ck .i64 (l-b) (bd? (bd? (if? (decide (b<k)) (gl? e.length e (some (n,k,o,p,b,(l-b),decide (k<(l-b)),e))) (gl? e.length e (some (n,k,o,p,b,(l-b),false,e)))) fun a=>if? a.2.2.2.2.2.2.1 (gl? a.2.2.2.2.2.2.2.length a.2.2.2.2.2.2.2 (bd? (gG N a.2.2.2.2.1 a.2.1 a.2.2.2.2.2.1 a.2.2.2.2.2.2.2) fun r=>gl? a.2.2.2.2.2.2.2.length r (some (a.1,a.2.2.1,a.2.2.2.1,a.2.2.2.2.1,a.2.2.2.2.2.1,r)))) (gl? a.2.2.2.2.2.2.2.length a.2.2.2.2.2.2.2 (some (a.1,a.2.2.1,a.2.2.2.1,a.2.2.2.2.1,a.2.2.2.2.2.1,a.2.2.2.2.2.2.2)))) fun c=>bd? (bd? (if? (decide (c.1<c.2.2.2.1)) (gl? c.2.2.2.2.2.length c.2.2.2.2.2 (some (c.1,c.2.1,c.2.2.1,c.2.2.2.1,c.2.2.2.2.1,decide (c.2.2.2.1<c.2.2.1),c.2.2.2.2.2))) (gl? c.2.2.2.2.2.length c.2.2.2.2.2 (some (c.1,c.2.1,c.2.2.1,c.2.2.2.1,c.2.2.2.2.1,false,c.2.2.2.2.2)))) fun d=>if? d.2.2.2.2.2.1 (gl? d.2.2.2.2.2.2.length d.2.2.2.2.2.2 (bd? (G_slices_symMergeCmpFunc_Version N d.1 d.2.2.2.1 d.2.2.1 d.2.2.2.2.2.2) fun s=>gl? d.2.2.2.2.2.2.length s (some (d.2.1,d.2.2.1,d.2.2.2.2.1,s)))) (gl? d.2.2.2.2.2.2.length d.2.2.2.2.2.2 (some (d.2.1,d.2.2.1,d.2.2.2.2.1,d.2.2.2.2.2.2)))) fun f=>bd? (if? (decide (f.2.1<f.2.2.1)) (gl? f.2.2.2.length f.2.2.2 (some (f.1,f.2.1,f.2.2.1,decide (f.2.2.1<f.1),f.2.2.2))) (gl? f.2.2.2.length f.2.2.2 (some (f.1,f.2.1,f.2.2.1,false,f.2.2.2)))) fun j=>if? j.2.2.2.1 (gl? j.2.2.2.2.length j.2.2.2.2 (bd? (G_slices_symMergeCmpFunc_Version N j.2.1 j.2.2.1 j.1 j.2.2.2.2) fun u=>some u)) (some j.2.2.2.2)))
def mF(N:Nat)(G_slices_symMergeCmpFunc_Version:Nat->Int->Int->Int->TA->Option TA):Nat->Int->Int->Int->Int->Int->Int->Int->Int->TA->Option TA:=aL [tC,tC,tC,tC,tC,tC,tC,tC,(.sl tA)] (mP N G_slices_symMergeCmpFunc_Version)
def oI(N:Nat)(G_slices_symMergeCmpFunc_Version:Nat->Int->Int->Int->TA->Option TA)(a c b:Int)(d:TA):Option TA:=ck .i64 (c-a) (if? ((c-a)==1) (gl? d.length d (lS N N a c b d)) (ck .i64 (b-c) (if? ((b-c)==1) (gl? d.length d (lR N N c a c d)) (ck .i64 (a+b) (ck .i64 ((δ .i64 ((δ .u64 (a+b))/(2^1)))+c) (bd? (if? (decide (c>(δ .i64 ((δ .u64 (a+b))/(2^1))))) (ck .i64 (((δ .i64 ((δ .u64 (a+b))/(2^1)))+c)-b) (gl? d.length d (some (a,c,b,(δ .i64 ((δ .u64 (a+b))/(2^1))),((δ .i64 ((δ .u64 (a+b))/(2^1)))+c),(((δ .i64 ((δ .u64 (a+b))/(2^1)))+c)-b),(δ .i64 ((δ .u64 (a+b))/(2^1))),d)))) (gl? d.length d (some (a,c,b,(δ .i64 ((δ .u64 (a+b))/(2^1))),((δ .i64 ((δ .u64 (a+b))/(2^1)))+c),a,c,d)))) fun e=>ck .i64 (e.2.2.2.2.1-1) (gl? e.2.2.2.2.2.2.2.length e.2.2.2.2.2.2.2 (mF N G_slices_symMergeCmpFunc_Version N e.1 e.2.1 e.2.2.1 e.2.2.2.1 e.2.2.2.2.1 e.2.2.2.2.2.1 e.2.2.2.2.2.2.1 (e.2.2.2.2.1-1) e.2.2.2.2.2.2.2))))))))
def G_slices_symMergeCmpFunc_Version:Nat->Int->Int->Int->TA->Option TA|0=>fun _ _ _ _=>none|N+1=>oI N fun _=>G_slices_symMergeCmpFunc_Version N
abbrev oA(N:Nat):Sig:=⟨170,⟨[(0,.slw (.B 0) tA 0),(1,dd tC),(2,dd tC),(3,dd tC),(4,.clo 120 [])],[some (.row true tA [])],[]⟩,[⟨[],[some (.row true tA [])],[]⟩],G_slices_symMergeCmpFunc_Version N⟩
theorem nO(N:Nat):aD Tryz.prog (oA N):=by induction N with|zero=>(intro _ v r h;cases(show none=some r from h))|succ N ih=>exact xf N (tc (uJ N) (tc (pP N) (tc ih tn))) [5000170,5000185] [⟨51,true,⟨[(0,.slw (.B 0) tA 0),(3,dd tC),(4,.clo 120 []),(18,dd tC),(24,dd tC),(213,dd .b)],[some (.row true tA [])],[]⟩⟩,⟨49,true,⟨[(0,.slw (.B 0) tA 0),(3,dd tC),(4,.clo 120 []),(18,dd tC),(24,dd tC)],[some (.row true tA [])],[]⟩⟩,⟨50,true,⟨[(0,.slw (.B 0) tA 0),(1,dd tC),(3,dd tC),(4,.clo 120 []),(18,dd tC),(20,dd tC),(24,dd tC),(199,dd .b)],[some (.row true tA [])],[]⟩⟩,⟨47,true,⟨[(0,.slw (.B 0) tA 0),(1,dd tC),(3,dd tC),(4,.clo 120 []),(18,dd tC),(20,dd tC),(24,dd tC)],[some (.row true tA [])],[]⟩⟩,⟨48,true,⟨[(0,.slw (.B 0) tA 0),(1,dd tC),(2,dd tC),(3,dd tC),(4,.clo 120 []),(18,dd tC),(20,dd tC),(24,dd tC),(185,dd .b)],[some (.row true tA [])],[]⟩⟩,⟨41,false,⟨[(0,.slw (.B 0) tA 0),(1,dd tC),(2,dd tC),(3,dd tC),(4,.clo 120 []),(18,dd tC),(19,dd tC),(20,dd tC),(21,dd tC),(22,dd tC)],[some (.row true tA [])],[]⟩⟩,⟨35,true,⟨[(0,.slw (.B 0) tA 0),(1,dd tC),(2,dd tC),(3,dd tC),(4,.clo 120 []),(18,dd tC),(19,dd tC),(20,dd tC),(21,dd tC)],[some (.row true tA [])],[]⟩⟩,⟨28,false,⟨[(0,.slw (.B 0) tA 0),(14,dd tC),(17,dd tC)],[some (.row true tA [])],[]⟩⟩,⟨21,false,⟨[(0,.slw (.B 0) tA 0),(2,dd tC),(4,.clo 120 []),(14,dd tC),(15,dd tC)],[some (.row true tA [])],[]⟩⟩,⟨12,false,⟨[(0,.slw (.B 0) tA 0),(10,dd tC),(13,dd tC)],[some (.row true tA [])],[]⟩⟩,⟨5,false,⟨[(0,.slw (.B 0) tA 0),(1,dd tC),(4,.clo 120 []),(10,dd tC),(11,dd tC)],[some (.row true tA [])],[]⟩⟩] 1 Tryz.func170 rfl (by kernel_rfl) fun a=>by kernel_rfl
def nJ(N:Nat)(i:Int->Int->TA->Option TA)(j:Int->Int->Int->Int->TA->Option TA)(d a:Int)(c f:Int)(b:TA):Option TA:=if? (decide (f<=d)) (ck .i64 (c+a) (gl? b.length b (bd? (G_slices_symMergeCmpFunc_Version N c (c+a) f b) fun g=>ck .i64 (2*a) (ck .i64 (f+(2*a)) (gl? b.length g (j d a f (f+(2*a)) g)))))) (bd? (ck .i64 (c+a) (if? (decide ((c+a)<d)) (gl? b.length b (bd? (G_slices_symMergeCmpFunc_Version N c (c+a) d b) fun h=>gl? b.length h (some (d,a,h)))) (gl? b.length b (some (d,a,b))))) fun e=>ck .i64 (e.2.1*2) (gl? e.2.2.length e.2.2 (i e.1 (e.2.1*2) e.2.2)))
def oL(N:Nat)(a:Int->Int->TA->Option TA):Nat->Int->Int->Int->Int->TA->Option TA:=aL [tC,tC,tC,tC,(.sl tA)] (nJ N a)
def nW(N:Nat)(d:Int->Int->TA->Option TA)(c a:Int)(b:TA):Option TA:=if? (decide (a<c)) (ck .i64 (2*a) (gl? b.length b (oL N d N c a 0 (2*a) b))) (some b)
def oG(N:Nat):Nat->Int->Int->TA->Option TA:=aL [tC,tC,(.sl tA)] (nW N)
def nK(N:Nat)(rec3:Int->Int->Int->Int->TA->Option TA)(c d:Int)(e b:Int)(a:TA):Option TA:=if? (decide (b<=c)) (gl? a.length a (bd? (bW N e b a) fun f=>ck .i64 (b+d) (gl? a.length f (rec3 c d b (b+d) f)))) (gl? a.length a (bd? (bW N e c a) fun g=>gl? a.length g (oG N N c d g)))
def nM(N:Nat):Nat->Int->Int->Int->Int->TA->Option TA:=aL [tC,tC,tC,tC,(.sl tA)] (nK N)
def gB(N:Nat)(b:Int)(a:TA):Option TA:=gl? a.length a (nM N N b 20 0 20 a)
abbrev pM(N:Nat):Sig:=⟨144,⟨[(0,.slw (.B 0) tA 0),(1,dd tC),(2,.clo 120 [])],[some (.row true tA [])],[]⟩,[⟨[],[some (.row true tA [])],[]⟩],gB N⟩
theorem pJ(N:Nat):aD Tryz.prog (pM N):=xf N (tc (jR N) (tc (nO N) tn)) [5000170,5000169] [⟨19,true,⟨[(0,.slw (.B 0) tA 0),(1,dd tC),(2,.clo 120 []),(6,dd tC)],[some (.row true tA [])],[]⟩⟩,⟨14,false,⟨[(0,.slw (.B 0) tA 0),(1,dd tC),(2,.clo 120 []),(6,dd tC),(7,dd tC),(8,dd tC)],[some (.row true tA [])],[]⟩⟩,⟨9,false,⟨[(0,.slw (.B 0) tA 0),(1,dd tC),(2,.clo 120 []),(6,dd tC)],[some (.row true tA [])],[]⟩⟩,⟨3,false,⟨[(0,.slw (.B 0) tA 0),(1,dd tC),(2,.clo 120 []),(6,dd tC),(7,dd tC),(8,dd tC)],[some (.row true tA [])],[]⟩⟩] 1 Tryz.func144 rfl (by kernel_rfl) fun a=>by kernel_rfl
def dI(N:Nat)(a:TA):Option TA:=gl? a.length a (bd? (gB N (a.length:Int) a) fun b=>some b)
abbrev iZ(N:Nat):Sig:=⟨119,⟨[(0,.slw (.B 0) tA 0),(1,.clo 120 [])],[some (.row true tA [])],[]⟩,[⟨[],[some (.row true tA [])],[]⟩],dI N⟩
theorem jA(N:Nat):aD Tryz.prog (iZ N):=xf N (tc (pJ N) tn) [5000144] [] 1 Tryz.func119 rfl (by kernel_rfl) fun a=>by kernel_rfl
def qN(rec3:TE->TE->Int->Int->Option Bool)(d e:TE)(f a:Int):Option Bool:=if? (decide (a<f)) (aU d a fun b=>aU e a fun c=>if? (!(oU [(Sh.s 0),(Sh.s 2),(Sh.s 2)] (b.1==c.1) (oU [(Sh.s 2),(Sh.s 2)] (b.2.1==c.2.1) (oU [(Sh.s 2)] (b.2.2.1==c.2.2.1) (oU ([]:(List Sh)) (b.2.2.2==c.2.2.2) true))))) (some false) (ck .i64 (a+1) (rec3 d e f (a+1)))) (some true)
def qP:Nat->TE->TE->Int->Int->Option Bool:=aL [(.sl tE),(.sl tE),tC,tC] (qN)
def jD(N:Nat)(a b:TE):Option Bool:=if? ((a.length:Int)!=(b.length:Int)) (some false) (qP N a b (a.length:Int) 0)
abbrev sP(N:Nat):Sig:=⟨171,⟨[(0,dd (.sl tE)),(1,dd (.sl tE))],[],[]⟩,[⟨[(0,dd .b)],[],[]⟩],jD N⟩
theorem sU(N:Nat):aD Tryz.prog (sP N):=xf N tn [] [⟨6,false,⟨[(0,dd (.sl tE)),(1,dd (.sl tE)),(12,dd tC),(13,dd tC)],[],[]⟩⟩] 0 Tryz.func171 rfl (by kernel_rfl) fun a=>by kernel_rfl
def yV(N:Nat)(a b:TE):Option Bool:=bd? (jD N a b) fun c=>some c
abbrev aId(N:Nat):Sig:=⟨145,⟨[(0,dd (.w (.sl tE))),(1,dd (.w (.sl tE)))],[],[]⟩,[⟨[(0,dd .b)],[],[]⟩],yV N⟩
theorem aJa(N:Nat):aD Tryz.prog (aId N):=xf N (tc (sU N) tn) [] [] 0 Tryz.func145 rfl (by kernel_rfl) fun a=>by kernel_rfl
def nZ(N:Nat)(a b:TH):Option Bool:=bd? (yV N a.2.2.2.2.2.2.2 b.2.2.2.2.2.2.2) fun c=>if? (!c) (some false) (bd? (if? (a.1==b.1) (if? (a.2.1==b.2.1) (if? (a.2.2.1==b.2.2.1) (if? (a.2.2.2.1==b.2.2.2.1) (if? (a.2.2.2.2.1==b.2.2.2.2.1) (if? (a.2.2.2.2.2.1==b.2.2.2.2.2.1) (some (a.2.2.2.2.2.2.1==b.2.2.2.2.2.2.1)) (some false)) (some false)) (some false)) (some false)) (some false)) (some false)) fun d=>some d)
abbrev aM7(N:Nat):Sig:=⟨122,⟨[(0,dd tA),(1,dd tA)],[],[]⟩,[⟨[(0,dd .b)],[],[]⟩],nZ N⟩
theorem zV(N:Nat):aD Tryz.prog (aM7 N):=xf N (tc (aJa N) tn) [] [⟨4,true,⟨[(4,dd .b)],[],[]⟩⟩] 0 Tryz.func122 rfl (by kernel_rfl) fun a=>by kernel_rfl
def jJ(N:Nat)(j:Int->Int->Int->Int->TA->Option TA)(a i:Int)(h d:Int)(b:TA):Option TA:=if? (decide (d<(h.toNat:Int))) (bd? (gd? (0<=d) (gd? (d<(h.toNat:Int)) (gn? b (i.toNat+d.toNat) fun e=>ck .i64 (d-1) (gd? (0<=(d-1)) (gd? ((d-1)<(h.toNat:Int)) (gn? b (i.toNat+(d-1).toNat) fun f=>bd? (nZ N (e.1,(e.2.1,(e.2.2.1,(e.2.2.2.1,(e.2.2.2.2.1,(e.2.2.2.2.2.1,(e.2.2.2.2.2.2.1,e.2.2.2.2.2.2.2))))))) (f.1,(f.2.1,(f.2.2.1,(f.2.2.2.1,(f.2.2.2.2.1,(f.2.2.2.2.2.1,(f.2.2.2.2.2.2.1,f.2.2.2.2.2.2.2)))))))) fun k=>if? (!k) (gd? (0<=d) (gd? (d<(h.toNat:Int)) (gn? b (i.toNat+d.toNat) fun c=>gd? (0<=a) (gd? (a<(b.length:Int)) (gn? b a.toNat fun l=>ck .i64 (a+1) (gl? b.length (cx b a.toNat (c.1,(c.2.1,(c.2.2.1,(c.2.2.2.1,(c.2.2.2.2.1,(c.2.2.2.2.2.1,(c.2.2.2.2.2.2.1,c.2.2.2.2.2.2.2)))))))) (some ((a+1),(i.toNat:Int),(h.toNat:Int),d,(cx b a.toNat (c.1,(c.2.1,(c.2.2.1,(c.2.2.2.1,(c.2.2.2.2.1,(c.2.2.2.2.2.1,(c.2.2.2.2.2.2.1,c.2.2.2.2.2.2.2)))))))))))))))) (gl? b.length b (some (a,(i.toNat:Int),(h.toNat:Int),d,b))))))))) fun g=>ck .i64 (g.2.2.2.1+1) (gl? g.2.2.2.2.length g.2.2.2.2 (j g.1 (g.2.1.toNat:Int) (g.2.2.1.toNat:Int) (g.2.2.2.1+1) g.2.2.2.2))) (gd? (0<=a) (gd? (a.toNat<=b.length) (gd? (b.length<=b.length) (gd? ((a.toNat+(b.length-a.toNat))<=b.length) (gd? (0<=a) (gd? (a.toNat<=b.length) (gl? a.toNat (cm a.toNat (((cm a.toNat b)++(ω (b.length-a.toNat) (0,(0,(0,(0,(0,(0,(0,([]:TE)))))))):TA))++(df (a.toNat+(b.length-a.toNat)) b))) (some (cm a.toNat (((cm a.toNat b)++(ω (b.length-a.toNat) (0,(0,(0,(0,(0,(0,(0,([]:TE)))))))):TA))++(df (a.toNat+(b.length-a.toNat)) b)))))))))))
def jH(N:Nat):Nat->Int->Int->Int->Int->TA->Option TA:=aL [tC,tC,tC,tC,(.sl tA)] (jJ N)
def jL(N:Nat)(rec2:Int->TA->Option TA)(b:Int)(a:TA):Option TA:=if? (decide (b<(a.length:Int))) (gd? (0<=b) (gd? (b<(a.length:Int)) (gn? a b.toNat fun c=>ck .i64 (b-1) (gd? (0<=(b-1)) (gd? ((b-1)<(a.length:Int)) (gn? a ((b-1).toNat) fun d=>bd? (nZ N (c.1,(c.2.1,(c.2.2.1,(c.2.2.2.1,(c.2.2.2.2.1,(c.2.2.2.2.2.1,(c.2.2.2.2.2.2.1,c.2.2.2.2.2.2.2))))))) (d.1,(d.2.1,(d.2.2.1,(d.2.2.2.1,(d.2.2.2.2.1,(d.2.2.2.2.2.1,(d.2.2.2.2.2.2.1,d.2.2.2.2.2.2.2)))))))) fun e=>if? e (gd? (0<=b) (gd? (b.toNat<=a.length) (gd? (a.length<=a.length) (gl? a.length a (jH N N b (b.toNat:Int) (((a.length-b.toNat):Nat):Int) 1 a))))) (ck .i64 (b+1) (gl? a.length a (rec2 (b+1) a))))))))) (gl? a.length a (some a))
def jI(N:Nat):Nat->Int->TA->Option TA:=aL [tC,(.sl tA)] (jL N)
def dY(N:Nat)(a:TA):Option TA:=if? (decide ((a.length:Int)<2)) (gl? a.length a (some a)) (gl? a.length a (jI N N 1 a))
abbrev kV(N:Nat):Sig:=⟨123,⟨[(0,.slw (.B 0) tA 0),(1,.clo 122 [])],[some (.row true tA [])],[]⟩,[⟨[(0,.slw (.O 0) tA 0)],[none],[some (.row true tA [])]⟩],dY N⟩
theorem kP(N:Nat):aD Tryz.prog (kV N):=xf N (tc (zV N) tn) [] [⟨17,true,⟨[(0,.slw (.O 0) tA 0),(1,.clo 122 []),(5,dd tC),(6,.sl (.O 0) tA 0 0),(7,dd tC)],[none],[some (.row true tA [])]⟩⟩,⟨14,false,⟨[(0,.slw (.O 0) tA 0),(1,.clo 122 []),(5,dd tC),(6,.sl (.O 0) tA 0 0),(7,dd tC)],[none],[some (.row true tA [])]⟩⟩,⟨6,false,⟨[(0,.slw (.O 0) tA 0),(1,.clo 122 []),(5,dd tC)],[none],[some (.row true tA [])]⟩⟩] 0 Tryz.func123 rfl (by kernel_rfl) fun a=>by kernel_rfl
def aFh(N:Nat)(i:Int->TA->Option TS)(b:Int)(a:TA):Option TS:=if? (decide (b<(a.length:Int))) (bd? (ck .i64 (b-1) (gd? (0<=(b-1)) (gd? ((b-1)<(a.length:Int)) (gn? a ((b-1).toNat) fun c=>gd? (0<=b) (gd? (b<(a.length:Int)) (gn? a b.toNat fun d=>bd? (dX N (c.1,(c.2.1,(c.2.2.1,(c.2.2.2.1,(c.2.2.2.2.1,(c.2.2.2.2.2.1,(c.2.2.2.2.2.2.1,c.2.2.2.2.2.2.2))))))) (d.1,(d.2.1,(d.2.2.1,(d.2.2.2.1,(d.2.2.2.2.1,(d.2.2.2.2.2.1,(d.2.2.2.2.2.2.1,d.2.2.2.2.2.2.2)))))))) fun j=>if? (j==0) (ck .i64 (b-1) (gd? (0<=(b-1)) (gd? ((b-1)<(a.length:Int)) (gn? a ((b-1).toNat) fun e=>gd? (0<=b) (gd? (b<(a.length:Int)) (gn? a b.toNat fun f=>bd? (nZ N (e.1,(e.2.1,(e.2.2.1,(e.2.2.2.1,(e.2.2.2.2.1,(e.2.2.2.2.2.1,(e.2.2.2.2.2.2.1,e.2.2.2.2.2.2.2))))))) (f.1,(f.2.1,(f.2.2.1,(f.2.2.2.1,(f.2.2.2.2.1,(f.2.2.2.2.2.1,(f.2.2.2.2.2.2.1,f.2.2.2.2.2.2.2)))))))) fun k=>gl? a.length a (some (b,(!k),a)))))))) (gl? a.length a (some (b,false,a))))))))) fun g=>if? g.2.1 (some (24,([]:TA))) (ck .i64 (g.1+1) (gl? g.2.2.length g.2.2 (i (g.1+1) g.2.2)))) (gl? a.length a (bd? (dY N a) fun h=>if? (decide ((h.length:Int)>400)) (some (2,([]:TA))) (gl? h.length h (some (0,h)))))
def aD7(N:Nat):Nat->Int->TA->Option TS:=aL [tC,(.sl tA)] (aFh N)
def aDj(N:Nat)(rec3:TA->TA->Int->Int->TV->Option TS)(d e:TA)(f a:Int)(b:TV):Option TS:=if? (decide (a<f)) (gd? (0<=a) (gd? (a<(b.length:Int)) (gn? b a.toNat fun i=>bd? (gX N i) fun g=>if? (g !=0) (some (g,([]:TA))) (ck .i64 (a+1) (gl? b.length b (rec3 d e f (a+1) b)))))) (bd? (fO N [d,e]) fun c=>gl? c.length c (bd? (dI N c) fun h=>gl? c.length h (aD7 N N 1 h)))
def aF2(N:Nat):Nat->TA->TA->Int->Int->TV->Option TS:=aL [(.sl tA),(.sl tA),tC,tC,tM] (aDj N)
def qR(N:Nat)(a b:TA):Option TS:=aF2 N N a b (([(Operand.tmp 11),(Operand.tmp 12)].length:Nat):Int) 0 [a,b]
abbrev aI0(N:Nat):Sig:=⟨67,⟨[(0,dd (.sl tA)),(1,dd (.sl tA))],[],[]⟩,[⟨[(0,.slw (.O 0) tA 0),(1,dd tC)],[],[some (.row true tA [])]⟩],qR N⟩
theorem yW(N:Nat):aD Tryz.prog (aI0 N):=xf N (tc (yD N) (tc (oV N) (tc (jA N) (tc (qU N) (tc (zV N) (tc (kP N) tn)))))) [5000123,5000119] [⟨19,true,⟨[(9,.slw (.O 0) tA 0),(10,dd tC),(60,dd .b)],[],[some (.row true tA [])]⟩⟩,⟨15,false,⟨[(9,.slw (.O 0) tA 0),(10,dd tC)],[],[some (.row true tA [])]⟩⟩,⟨3,false,⟨[(0,dd (.sl tA)),(1,dd (.sl tA)),(13,.slw (.O 0) (.sl tA) 0),(14,dd tC),(15,dd tC)],[],[some (.row true (.sl tA) [])]⟩⟩] 0 Tryz.func67 rfl (by kernel_rfl) fun a=>by kernel_rfl
def cS(N:Nat)(a b c:Int):Option Bool:=bd? (if? (decide (a≥b)) (some (decide (a<=c))) (some false)) fun d=>some d
abbrev aGg(N:Nat):Sig:=⟨149,⟨[(0,dd tC),(1,dd tC),(2,dd tC)],[],[]⟩,[⟨[(0,dd .b)],[],[]⟩],cS N⟩
theorem aDd(N:Nat):aD Tryz.prog (aGg N):=xf N tn [] [⟨1,true,⟨[(6,dd .b)],[],[]⟩⟩] 0 Tryz.func149 rfl (by kernel_rfl) fun a=>by kernel_rfl
def eS(N:Nat)(a:TB):Option Bool:=bd? (bd? (cS N a.1 0 39) fun b=>if? b (bd? (cS N a.2.1 0 1099511627776) fun c=>if? c (if? (decide (a.2.2.1≥0)) (if? (decide (a.2.2.1<a.2.2.2.1)) (if? (decide (a.2.2.2.1<=1402560)) (bd? (cS N a.2.2.2.2.1 0 1000) fun d=>if? d (bd? (cS N a.2.2.2.2.2 0 14609) fun e=>some e) (some false)) (some false)) (some false)) (some false)) (some false)) (some false)) fun f=>some f
abbrev aI3(N:Nat):Sig:=⟨131,⟨[(0,dd tB)],[],[]⟩,[⟨[(0,dd .b)],[],[]⟩],eS N⟩
theorem aI9(N:Nat):aD Tryz.prog (aI3 N):=xf N (tc (aDd N) tn) [] [⟨2,true,⟨[(2,dd .b)],[],[]⟩⟩] 0 Tryz.func131 rfl (by kernel_rfl) fun a=>by kernel_rfl
def tY(rec2:Int->TC->Int->Int->Option Int)(b:Int)(c:TC)(d a:Int):Option Int:=if? (decide (a<d)) (aU c a fun e=>if? (e !=b) (some e) (ck .i64 (a+1) (rec2 b c d (a+1)))) (some b)
def tP:Nat->Int->TC->Int->Int->Option Int:=aL [tC,(.sl tC),tC,tC] (tY)
def rQ(N:Nat)(a:TC):Option Int:=tP N 0 a (a.length:Int) 0
abbrev aSo(N:Nat):Sig:=⟨141,⟨[(0,dd (.sl tC))],[],[]⟩,[⟨[(0,dd tC)],[],[]⟩],rQ N⟩
theorem aRu(N:Nat):aD Tryz.prog (aSo N):=xf N tn [] [⟨4,false,⟨[(3,dd tC),(6,dd (.sl tC)),(7,dd tC),(8,dd tC)],[],[]⟩⟩] 0 Tryz.func141 rfl (by kernel_rfl) fun a=>by kernel_rfl
def eO(N:Nat)(a b:TB):Option Int:=bd? (cB N a.1 b.1) fun c=>bd? (cB N a.2.1 b.2.1) fun d=>bd? (rQ N [c,d]) fun e=>some e
abbrev aIw(N:Nat):Sig:=⟨116,⟨[(0,dd tB),(1,dd tB)],[],[]⟩,[⟨[(0,dd tC)],[],[]⟩],eO N⟩
theorem yY(N:Nat):aD Tryz.prog (aIw N):=xf N (tc (oD N) (tc (aRu N) tn)) [] [] 0 Tryz.func116 rfl (by kernel_rfl) fun a=>by kernel_rfl
def fG(N:Nat)(rec2:TG->TG->Int->Int->Option Int)(e f:TG)(g b:Int):Option Int:=if? (decide (b<g)) (aU f b fun a=>bd? (bd? (eS N (a.1,(a.2.1,(a.2.2.1,(a.2.2.2.1,(a.2.2.2.2.1,a.2.2.2.2.2)))))) fun h=>if? (!h) (some (e,f,g,b,true)) (if? (decide (b>0)) (ck .i64 (b-1) (aU e (b-1) fun c=>bd? (eO N (c.1,(c.2.1,(c.2.2.1,(c.2.2.2.1,(c.2.2.2.2.1,c.2.2.2.2.2))))) (a.1,(a.2.1,(a.2.2.1,(a.2.2.2.1,(a.2.2.2.2.1,a.2.2.2.2.2)))))) fun i=>some (e,f,g,b,decide (i≥0)))) (some (e,f,g,b,false)))) fun d=>if? d.2.2.2.2 (some (1)) (ck .i64 (d.2.2.2.1+1) (rec2 d.1 d.2.1 d.2.2.1 (d.2.2.2.1+1)))) (some (0))
def iF(N:Nat):Nat->TG->TG->Int->Int->Option Int:=aL [(.sl tB),(.sl tB),tC,tC] (fG N)
def gW(N:Nat)(a:TG):Option Int:=if? (decide ((a.length:Int)>4000)) (some (2)) (iF N N a a (a.length:Int) 0)
abbrev aIo(N:Nat):Sig:=⟨86,⟨[(0,dd (.sl tB))],[],[]⟩,[⟨[(0,dd tC)],[],[]⟩],gW N⟩
theorem yN(N:Nat):aD Tryz.prog (aIo N):=xf N (tc (aI9 N) (tc (yY N) tn)) [] [⟨11,true,⟨[(0,dd (.sl tB)),(8,dd (.sl tB)),(9,dd tC),(10,dd tC),(31,dd .b)],[],[]⟩⟩,⟨6,false,⟨[(0,dd (.sl tB)),(8,dd (.sl tB)),(9,dd tC),(10,dd tC)],[],[]⟩⟩] 0 Tryz.func86 rfl (by kernel_rfl) fun a=>by kernel_rfl
def vE(N:Nat)(b a:TB):Option Bool:=some (nB [1,1,1,1,1] (b.1==a.1) (nB [1,1,1,1] (b.2.1==a.2.1) (nB [1,1,1] (b.2.2.1==a.2.2.1) (nB [1,1] (b.2.2.2.1==a.2.2.2.1) (nB [1] (b.2.2.2.2.1==a.2.2.2.2.1) (nB ([]:(List Nat)) (a.2.2.2.2.2==a.2.2.2.2.2) true))))))
abbrev aEm(N:Nat):Sig:=⟨117,⟨[(0,dd tB),(1,dd tB)],[],[]⟩,[⟨[(0,dd .b)],[],[]⟩],vE N⟩
theorem aEp(N:Nat):aD Tryz.prog (aEm N):=xf N tn [] [] 0 Tryz.func117 rfl (by kernel_rfl) fun a=>by kernel_rfl
def aF7(N:Nat)(k:TG->TG->TG->Option TT)(l m f:TG):Option TT:=bd? (if? (decide ((l.length:Int)>0)) (gl? f.length f (some (l,m,decide ((m.length:Int)>0),f))) (gl? f.length f (some (l,m,false,f)))) fun a=>if? a.2.2.1 (aU a.1 (0) fun g=>aU a.2.1 (0) fun h=>bd? (eO N (g.1,(g.2.1,(g.2.2.1,(g.2.2.2.1,(g.2.2.2.2.1,g.2.2.2.2.2))))) (h.1,(h.2.1,(h.2.2.1,(h.2.2.2.1,(h.2.2.2.2.1,h.2.2.2.2.2)))))) fun n=>if? (decide (n<0)) (aU a.1 (0) fun c=>gl? a.2.2.2.length a.2.2.2 (gd? (((a.2.2.2.length+[(c.1,(c.2.1,(c.2.2.1,(c.2.2.2.1,(c.2.2.2.2.1,c.2.2.2.2.2)))))].length)*48)<=140737488355328) (gd? (1<=a.1.length) (gd? (a.1.length<=a.1.length) (gl? ((a.2.2.2++[(c.1,(c.2.1,(c.2.2.1,(c.2.2.2.1,(c.2.2.2.2.1,c.2.2.2.2.2)))))]).length) (a.2.2.2++[(c.1,(c.2.1,(c.2.2.1,(c.2.2.2.1,(c.2.2.2.2.1,c.2.2.2.2.2)))))]) (k (cm (a.1.length-1) (df 1 a.1)) a.2.1 (a.2.2.2++[(c.1,(c.2.1,(c.2.2.1,(c.2.2.2.1,(c.2.2.2.2.1,c.2.2.2.2.2)))))]))))))) (if? (decide (n>0)) (aU a.2.1 (0) fun d=>gl? a.2.2.2.length a.2.2.2 (gd? (((a.2.2.2.length+[(d.1,(d.2.1,(d.2.2.1,(d.2.2.2.1,(d.2.2.2.2.1,d.2.2.2.2.2)))))].length)*48)<=140737488355328) (gd? (1<=a.2.1.length) (gd? (a.2.1.length<=a.2.1.length) (gl? ((a.2.2.2++[(d.1,(d.2.1,(d.2.2.1,(d.2.2.2.1,(d.2.2.2.2.1,d.2.2.2.2.2)))))]).length) (a.2.2.2++[(d.1,(d.2.1,(d.2.2.1,(d.2.2.2.1,(d.2.2.2.2.1,d.2.2.2.2.2)))))]) (k a.1 (cm (a.2.1.length-1) (df 1 a.2.1)) (a.2.2.2++[(d.1,(d.2.1,(d.2.2.1,(d.2.2.2.1,(d.2.2.2.2.1,d.2.2.2.2.2)))))]))))))) (aU a.1 (0) fun i=>aU a.2.1 (0) fun j=>bd? (vE N (i.1,(i.2.1,(i.2.2.1,(i.2.2.2.1,(i.2.2.2.2.1,i.2.2.2.2.2))))) (j.1,(j.2.1,(j.2.2.1,(j.2.2.2.1,(j.2.2.2.2.1,j.2.2.2.2.2)))))) fun o=>if? (!o) (some (24,([]:TG))) (aU a.1 (0) fun b=>aU a.2.1 (0) fun e=>gd? (b.1=b.1) (gd? (b.2.1=b.2.1) (gd? (b.2.2.1=b.2.2.1) (gd? (b.2.2.2.1=b.2.2.2.1) (gd? (b.2.2.2.2.1=b.2.2.2.2.1) (gd? ((Min.min b.2.2.2.2.2 e.2.2.2.2.2)=(Min.min b.2.2.2.2.2 e.2.2.2.2.2)) (gl? a.2.2.2.length a.2.2.2 (gd? (((a.2.2.2.length+[(b.1,(b.2.1,(b.2.2.1,(b.2.2.2.1,(b.2.2.2.2.1,(Min.min b.2.2.2.2.2 e.2.2.2.2.2))))))].length)*48)<=140737488355328) (gd? (b.1=b.1) (gd? (b.2.1=b.2.1) (gd? (b.2.2.1=b.2.2.1) (gd? (b.2.2.2.1=b.2.2.2.1) (gd? (b.2.2.2.2.1=b.2.2.2.2.1) (gd? ((Min.min b.2.2.2.2.2 e.2.2.2.2.2)=(Min.min b.2.2.2.2.2 e.2.2.2.2.2)) (gd? (1<=a.1.length) (gd? (a.1.length<=a.1.length) (gd? (1<=a.2.1.length) (gd? (a.2.1.length<=a.2.1.length) (gl? ((a.2.2.2++[(b.1,(b.2.1,(b.2.2.1,(b.2.2.2.1,(b.2.2.2.2.1,(Min.min b.2.2.2.2.2 e.2.2.2.2.2))))))]).length) (a.2.2.2++[(b.1,(b.2.1,(b.2.2.1,(b.2.2.2.1,(b.2.2.2.2.1,(Min.min b.2.2.2.2.2 e.2.2.2.2.2))))))]) (k (cm (a.1.length-1) (df 1 a.1)) (cm (a.2.1.length-1) (df 1 a.2.1)) (a.2.2.2++[(b.1,(b.2.1,(b.2.2.1,(b.2.2.2.1,(b.2.2.2.2.1,(Min.min b.2.2.2.2.2 e.2.2.2.2.2))))))])))))))))))))))))))))))) (gl? a.2.2.2.length a.2.2.2 (gd? (((a.2.2.2.length+a.1.length)*48)<=140737488355328) (gl? ((a.2.2.2++a.1).length) (a.2.2.2++a.1) (gd? ((((a.2.2.2++a.1).length+a.2.1.length)*48)<=140737488355328) (if? (decide (((((a.2.2.2++a.1)++a.2.1).length:Nat):Int)>4000)) (some (2,([]:TG))) (gl? (((a.2.2.2++a.1)++a.2.1).length) ((a.2.2.2++a.1)++a.2.1) (some (0,((a.2.2.2++a.1)++a.2.1)))))))))
def aFf(N:Nat):Nat->TG->TG->TG->Option TT:=aL [(.sl tB),(.sl tB),(.sl tB)] (aF7 N)
def aE3(N:Nat)(rec3:TG->TG->Int->Int->(List TG)->Option TT)(c d:TG)(e a:Int)(b:(List TG)):Option TT:=if? (decide (a<e)) (gd? (0<=a) (gd? (a<(b.length:Int)) (gn? b a.toNat fun g=>bd? (gW N g) fun f=>if? (f !=0) (some (f,([]:TG))) (ck .i64 (a+1) (gl? b.length b (rec3 c d e (a+1) b)))))) (aFf N N c d ([]:TG))
def aEd(N:Nat):Nat->TG->TG->Int->Int->(List TG)->Option TT:=aL [(.sl tB),(.sl tB),tC,tC,(.sl (.sl tB))] (aE3 N)
def qX(N:Nat)(a b:TG):Option TT:=aEd N N a b (([(Operand.tmp 12),(Operand.tmp 13)].length:Nat):Int) 0 [a,b]
abbrev aIm(N:Nat):Sig:=⟨66,⟨[(0,dd (.sl tB)),(1,dd (.sl tB))],[],[]⟩,[⟨[(0,.slw (.O 0) tB 0),(1,dd tC)],[],[some (.row true tB [])]⟩],qX N⟩
theorem yR(N:Nat):aD Tryz.prog (aIm N):=xf N (tc (yN N) (tc (yY N) (tc (aEp N) tn))) [3000065,3000066,3000070,3000076,3000077,3000081,53,3000057,3000059,68,79,55,95,93] [⟨15,true,⟨[(0,dd (.sl tB)),(1,dd (.sl tB)),(9,.slw (.O 0) tB 0),(33,dd .b)],[],[some (.row true tB [])]⟩⟩,⟨13,false,⟨[(0,dd (.sl tB)),(1,dd (.sl tB)),(9,.slw (.O 0) tB 0)],[],[some (.row true tB [])]⟩⟩,⟨3,false,⟨[(0,dd (.sl tB)),(1,dd (.sl tB)),(14,.slw (.O 0) (.sl tB) 0),(15,dd tC),(16,dd tC)],[],[some (.row true (.sl tB) [])]⟩⟩] 0 Tryz.func66 rfl (by kernel_rfl) fun a=>by kernel_rfl
def lC(N:Nat)(a:Int):Option Bool:=bd? (if? (decide (a≥0)) (some (decide (a<=14609))) (some false)) fun b=>some b
abbrev aN5(N:Nat):Sig:=⟨38,⟨[(0,dd tC)],[],[]⟩,[⟨[(0,dd .b)],[],[]⟩],lC N⟩
theorem aCf(N:Nat):aD Tryz.prog (aN5 N):=xf N tn [] [⟨1,true,⟨[(2,dd .b)],[],[]⟩⟩] 0 Tryz.func38 rfl (by kernel_rfl) fun a=>by kernel_rfl
def eN(N:Nat)(b:TG)(c:TA):Option Int:=bd? (gW N b) fun a=>if? (a !=0) (some a) (bd? (gX N c) fun d=>some d)
abbrev yL(N:Nat):Sig:=⟨37,⟨[(0,dd (.sl tB)),(1,dd (.sl tA))],[],[]⟩,[⟨[(0,dd tC)],[],[]⟩],eN N⟩
theorem qQ(N:Nat):aD Tryz.prog (yL N):=xf N (tc (yN N) (tc (yD N) tn)) [] [] 0 Tryz.func37 rfl (by kernel_rfl) fun a=>by kernel_rfl
def oP(N:Nat)(b:TB)(a:Int)(c:TG)(d:TA):Option (Bool×TF):=some ((b.2.2.2.2.2!=a),(a,(c,d)))
abbrev aEr(N:Nat):Sig:=⟨63,⟨[(0,dd tB),(1,.ptr (.B 0) 0)],[some (.box [dd tC,dd (.sl tB),dd (.sl tA)])],[]⟩,[⟨[(0,dd .b)],[some (.box [dd tC,dd (.sl tB),dd (.sl tA)])],[]⟩],oP N⟩
theorem aFm(N:Nat):aD Tryz.prog (aEr N):=xf N tn [] [] 1 Tryz.func63 rfl (by kernel_rfl) fun a=>by kernel_rfl
def bH(N:Nat)(i:TG->Int->Int->Int->TG->TA->Option TA0)(d:TG)(e c f:Int)(g:TG)(h:TA):Option TA0:=if? (decide (c<e)) (aU d c fun b=>bd? (oP N (b.1,(b.2.1,(b.2.2.1,(b.2.2.2.1,(b.2.2.2.2.1,b.2.2.2.2.2))))) f g h) fun a=>if? a.1 (some (c,(a.2.1,(a.2.2.1,a.2.2.2)))) (ck .i64 (c+1) (i d e (c+1) a.2.1 a.2.2.1 a.2.2.2))) (some ((-1),(f,(g,h))))
def bI(N:Nat):Nat->TG->Int->Int->Int->TG->TA->Option TA0:=aL [(.sl tB),tC,tC,tC,(.sl tB),(.sl tA)] (bH N)
def cI(N:Nat)(a:TG)(b:Int)(c:TG)(d:TA):Option TA0:=bI N N a (a.length:Int) 0 b c d
abbrev mK(N:Nat):Sig:=⟨114,⟨[(0,dd (.sl tB)),(1,.clo 63 [.ptr (.B 0) 0])],[some (.box [dd tC,dd (.sl tB),dd (.sl tA)])],[]⟩,[⟨[(0,dd tC)],[some (.box [dd tC,dd (.sl tB),dd (.sl tA)])],[]⟩],cI N⟩
theorem lU(N:Nat):aD Tryz.prog (mK N):=xf N (tc (aFm N) tn) [16,5000063] [⟨3,false,⟨[(0,dd (.sl tB)),(1,.clo 63 [.ptr (.B 0) 0]),(7,dd tC),(8,dd tC)],[some (.box [dd tC,dd (.sl tB),dd (.sl tA)])],[]⟩⟩] 1 Tryz.func114 rfl (by kernel_rfl) fun a=>by kernel_rfl
def bE(N:Nat)(b:TG)(c:Int)(d:TG)(e:TA):Option (Bool×TF):=bd? (cI N b c d e) fun a=>some (decide (a.1≥0),(a.2.1,(a.2.2.1,a.2.2.2)))
abbrev jX(N:Nat):Sig:=⟨62,⟨[(0,dd (.sl tB)),(1,.clo 63 [.ptr (.B 0) 0])],[some (.box [dd tC,dd (.sl tB),dd (.sl tA)])],[]⟩,[⟨[(0,dd .b)],[some (.box [dd tC,dd (.sl tB),dd (.sl tA)])],[]⟩],bE N⟩
theorem kB(N:Nat):aD Tryz.prog (jX N):=xf N (tc (lU N) tn) [5000114] [] 1 Tryz.func62 rfl (by kernel_rfl) fun a=>by kernel_rfl
def nI(N:Nat)(b:TH)(a:Int)(c:TG)(d:TA):Option (Bool×TF):=some ((b.2.2.2.1!=a),(a,(c,d)))
abbrev aFw(N:Nat):Sig:=⟨65,⟨[(0,dd tA),(1,.ptr (.B 0) 0)],[some (.box [dd tC,dd (.sl tB),dd (.sl tA)])],[]⟩,[⟨[(0,dd .b)],[some (.box [dd tC,dd (.sl tB),dd (.sl tA)])],[]⟩],nI N⟩
theorem aDi(N:Nat):aD Tryz.prog (aFw N):=xf N tn [] [] 1 Tryz.func65 rfl (by kernel_rfl) fun a=>by kernel_rfl
def bK(N:Nat)(i:TA->Int->Int->Int->TG->TA->Option TA0)(d:TA)(e c f:Int)(g:TG)(h:TA):Option TA0:=if? (decide (c<e)) (aU d c fun a=>bd? (nI N (a.1,(a.2.1,(a.2.2.1,(a.2.2.2.1,(a.2.2.2.2.1,(a.2.2.2.2.2.1,(a.2.2.2.2.2.2.1,a.2.2.2.2.2.2.2))))))) f g h) fun b=>if? b.1 (some (c,(b.2.1,(b.2.2.1,b.2.2.2)))) (ck .i64 (c+1) (i d e (c+1) b.2.1 b.2.2.1 b.2.2.2))) (some ((-1),(f,(g,h))))
def bJ(N:Nat):Nat->TA->Int->Int->Int->TG->TA->Option TA0:=aL [(.sl tA),tC,tC,tC,(.sl tB),(.sl tA)] (bK N)
def cJ(N:Nat)(a:TA)(b:Int)(c:TG)(d:TA):Option TA0:=bJ N N a (a.length:Int) 0 b c d
abbrev lQ(N:Nat):Sig:=⟨115,⟨[(0,dd (.sl tA)),(1,.clo 65 [.ptr (.B 0) 0])],[some (.box [dd tC,dd (.sl tB),dd (.sl tA)])],[]⟩,[⟨[(0,dd tC)],[some (.box [dd tC,dd (.sl tB),dd (.sl tA)])],[]⟩],cJ N⟩
theorem mM(N:Nat):aD Tryz.prog (lQ N):=xf N (tc (aDi N) tn) [16,5000065] [⟨3,false,⟨[(0,dd (.sl tA)),(1,.clo 65 [.ptr (.B 0) 0]),(7,dd tC),(8,dd tC)],[some (.box [dd tC,dd (.sl tB),dd (.sl tA)])],[]⟩⟩] 1 Tryz.func115 rfl (by kernel_rfl) fun a=>by kernel_rfl
def bF(N:Nat)(b:TA)(c:Int)(d:TG)(e:TA):Option (Bool×TF):=bd? (cJ N b c d e) fun a=>some (decide (a.1≥0),(a.2.1,(a.2.2.1,a.2.2.2)))
abbrev jN(N:Nat):Sig:=⟨64,⟨[(0,dd (.sl tA)),(1,.clo 65 [.ptr (.B 0) 0])],[some (.box [dd tC,dd (.sl tB),dd (.sl tA)])],[]⟩,[⟨[(0,dd .b)],[some (.box [dd tC,dd (.sl tB),dd (.sl tA)])],[]⟩],bF N⟩
theorem jW(N:Nat):aD Tryz.prog (jN N):=xf N (tc (mM N) tn) [5000115] [] 1 Tryz.func64 rfl (by kernel_rfl) fun a=>by kernel_rfl
def aT(N:Nat)(a:TF):Option Int:=bd? (lC N a.1) fun d=>if? (!d) (some (3)) (bd? (eN N a.2.1 a.2.2) fun c=>if? (c !=0) (some c) (bd? (bd? (bE N a.2.1 a.1 a.2.1 a.2.2) fun b=>if? b.1 (some true) (bd? (bF N b.2.2.2 b.2.1 b.2.2.1 b.2.2.2) fun e=>some e.1)) fun f=>if? f (some (1)) (some (0))))
abbrev aJb(N:Nat):Sig:=⟨22,⟨[(0,dd tD)],[],[]⟩,[⟨[(0,dd tC)],[],[]⟩],aT N⟩
theorem lO(N:Nat):aD Tryz.prog (aJb N):=xf N (tc (aCf N) (tc (qQ N) (tc (kB N) (tc (jW N) tn)))) [5000064,5000062] [⟨9,true,⟨[(25,dd .b)],[],[]⟩⟩] 0 Tryz.func22 rfl (by kernel_rfl) fun a=>by kernel_rfl
def nN(N:Nat)(a b:TF):Option Int:=bd? (aT N (a.1,(a.2.1,a.2.2))) fun c=>if? (c !=0) (some c) (bd? (aT N (b.1,(b.2.1,b.2.2))) fun d=>if? (d !=0) (some d) (if? (a.1!=b.1) (some (1)) (some (0))))
abbrev aMi(N:Nat):Sig:=⟨71,⟨[(0,dd tD),(1,dd tD)],[],[]⟩,[⟨[(0,dd tC)],[],[]⟩],nN N⟩
theorem sI(N:Nat):aD Tryz.prog (aMi N):=xf N (tc (lO N) tn) [] [] 0 Tryz.func71 rfl (by kernel_rfl) fun a=>by kernel_rfl
def yE(N:Nat)(a b:TF):Option TO:=bd? (nN N (a.1,(a.2.1,a.2.2)) (b.1,(b.2.1,b.2.2))) fun e=>if? (e !=0) (some (0,(([]:TG),(([]:TA),e)))) (bd? (qX N a.2.1 b.2.1) fun c=>if? (c.1!=0) (some (0,(([]:TG),(([]:TA),c.1)))) (bd? (qR N a.2.2 b.2.2) fun d=>if? (d.1!=0) (some (0,(([]:TG),(([]:TA),d.1)))) (gl? c.2.length c.2 (gl? d.2.length d.2 (some (a.1,(c.2,(d.2,0))))))))
abbrev aI7(N:Nat):Sig:=⟨28,⟨[(0,dd tD),(1,dd tD)],[],[]⟩,[⟨[(0,.agg [dd tC,dd (.sl tB),dd (.sl tA)]),(1,dd tC)],[],[]⟩],yE N⟩
theorem aIx(N:Nat):aD Tryz.prog (aI7 N):=xf N (tc (sI N) (tc (yR N) (tc (yW N) tn))) [] [] 0 Tryz.func28 rfl (by kernel_rfl) fun a=>by kernel_rfl
def aGp(N:Nat)(rec2:TN->Int->Int->TG->TA->Option TF)(g:TN)(h f:Int)(a:TG)(b:TA):Option TF:=if? (decide (f<h)) (aU g f fun c=>bd? (aT N (c.1,(c.2.1,c.2.2))) fun i=>if? (i !=0) (some (i,(([]:TG),([]:TA)))) (gl? a.length a (bd? (qX N a c.2.1) fun d=>if? (d.1!=0) (some (d.1,(([]:TG),([]:TA)))) (gl? b.length b (bd? (qR N b c.2.2) fun e=>if? (e.1!=0) (some (e.1,(([]:TG),([]:TA)))) (ck .i64 (f+1) (gl? d.2.length d.2 (gl? e.2.length e.2 (rec2 g h (f+1) d.2 e.2))))))))) (gl? a.length a (gl? b.length b (some (0,(a,b)))))
def aGh(N:Nat):Nat->TN->Int->Int->TG->TA->Option TF:=aL [(.sl tD),tC,tC,(.sl tB),(.sl tA)] (aGp N)
def aAc(N:Nat)(a:TN):Option TF:=aGh N N a (a.length:Int) 0 ([]:TG) ([]:TA)
abbrev aKk(N:Nat):Sig:=⟨24,⟨[(0,dd (.sl tD))],[],[]⟩,[⟨[(0,.slw (.O 0) tB 0),(1,.slw (.O 1) tA 0),(2,dd tC)],[],[some (.row true tB []),some (.row true tA [])]⟩],aAc N⟩
theorem aL8(N:Nat):aD Tryz.prog (aKk N):=xf N (tc (lO N) (tc (yR N) (tc (yW N) tn))) [] [⟨3,false,⟨[(2,.slw (.O 0) tB 0),(3,.slw (.O 1) tA 0),(8,dd (.sl tD)),(9,dd tC),(10,dd tC)],[],[some (.row true tB []),some (.row true tA [])]⟩⟩] 0 Tryz.func24 rfl (by kernel_rfl) fun a=>by kernel_rfl
def xC(rec2:Int->TC->Option TC)(b:Int)(a:TC):Option TC:=if? (decide (b>127)) (gl? a.length a (gd? (((a.length+[(bits .or .u8 (δ .u8 b) 128)].length)*1)<=140737488355328) (gl? ((a++[(bits .or .u8 (δ .u8 b) 128)]).length) (a++[(bits .or .u8 (δ .u8 b) 128)]) (rec2 (b/(2^7)) (a++[(bits .or .u8 (δ .u8 b) 128)]))))) (gl? a.length a (gd? (((a.length+[(δ .u8 b)].length)*1)<=140737488355328) (gl? ((a++[(δ .u8 b)]).length) (a++[(δ .u8 b)]) (some (a++[(δ .u8 b)])))))
def rU:Nat->Int->TC->Option TC:=aL [tK,tH] (xC)
def eI(N:Nat)(a:Int):Option TC:=rU N (bits .xor .u64 (δ .u64 ((δ .u64 a)*(2^1))) (δ .u64 (a/(2^63)))) ([]:TC)
abbrev aW9(N:Nat):Sig:=⟨42,⟨[(0,dd tC)],[],[]⟩,[⟨[(0,.slw (.O 0) (.i .u8) 0)],[],[some (.row true (.i .u8) [])]⟩],eI N⟩
theorem tR(N:Nat):aD Tryz.prog (aW9 N):=xf N tn [21,26] [⟨4,false,⟨[(3,dd tK),(4,.slw (.O 0) (.i .u8) 0)],[],[some (.row true (.i .u8) [])]⟩⟩] 0 Tryz.func42 rfl (by kernel_rfl) fun a=>by kernel_rfl
def iM(N:Nat)(rec3:TC->Int->Int->TC->Option TC)(d:TC)(e c:Int)(a:TC):Option TC:=if? (decide (c<e)) (aU d c fun f=>bd? (eI N f) fun b=>gl? a.length a (gl? b.length b (gd? (((a.length+b.length)*1)<=140737488355328) (ck .i64 (c+1) (gl? ((a++b).length) (a++b) (rec3 d e (c+1) (a++b))))))) (gl? a.length a (some a))
def iE(N:Nat):Nat->TC->Int->Int->TC->Option TC:=aL [(.sl tC),tC,tC,tH] (iM N)
def qW(N:Nat)(a:TC):Option TC:=bd? (eI N (a.length:Int)) fun b=>gl? b.length b (iE N N a (a.length:Int) 0 b)
abbrev aIq(N:Nat):Sig:=⟨172,⟨[(0,dd (.sl tC)),(1,.clo 42 [])],[],[]⟩,[⟨[(0,.slw (.O 0) (.i .u8) 0)],[],[some (.row true (.i .u8) [])]⟩],qW N⟩
theorem aIn(N:Nat):aD Tryz.prog (aIq N):=xf N (tc (tR N) tn) [21] [⟨4,false,⟨[(1,.clo 42 []),(5,.slw (.O 0) (.i .u8) 0),(11,dd (.sl tC)),(12,dd tC),(13,dd tC)],[],[some (.row true (.i .u8) [])]⟩⟩] 0 Tryz.func172 rfl (by kernel_rfl) fun a=>by kernel_rfl
def zU(N:Nat)(b:TC):Option TC:=bd? (qW N b) fun a=>gl? a.length a (some a)
abbrev aS4(N:Nat):Sig:=⟨146,⟨[(0,dd (.sl tC))],[],[]⟩,[⟨[(0,.slw (.O 0) (.i .u8) 0)],[],[some (.row true (.i .u8) [])]⟩],zU N⟩
theorem aTw(N:Nat):aD Tryz.prog (aS4 N):=xf N (tc (aIn N) tn) [] [] 0 Tryz.func146 rfl (by kernel_rfl) fun a=>by kernel_rfl
def gD(N:Nat)(b:TC):Option Str:=bd? (zU N b) fun a=>gl? a.length a (some (aO a))
abbrev aK8(N:Nat):Sig:=⟨128,⟨[(0,dd (.sl tC))],[],[]⟩,[⟨[(0,dd .s)],[],[]⟩],gD N⟩
theorem zE(N:Nat):aD Tryz.prog (aK8 N):=xf N (tc (aTw N) tn) [] [] 0 Tryz.func128 rfl (by kernel_rfl) fun a=>by kernel_rfl
def gA(N:Nat)(a:TB):Option Str:=bd? (gD N [1,a.1,a.2.1,a.2.2.1,a.2.2.2.1,a.2.2.2.2.1,a.2.2.2.2.2]) fun b=>some b
abbrev aKe(N:Nat):Sig:=⟨74,⟨[(0,dd tB)],[],[]⟩,[⟨[(0,dd .s)],[],[]⟩],gA N⟩
theorem zI(N:Nat):aD Tryz.prog (aKe N):=xf N (tc (zE N) tn) [] [] 0 Tryz.func74 rfl (by kernel_rfl) fun a=>by kernel_rfl
def nS(N:Nat)(b:Str):Option TC:=bd? (eI N (b.length:Int)) fun a=>gl? a.length a (gd? (((a.length+(aE b).length)*1)<=140737488355328) (gl? ((a++(aE b)).length) (a++(aE b)) (some (a++(aE b)))))
abbrev aQ6(N:Nat):Sig:=⟨82,⟨[(0,dd .s)],[],[]⟩,[⟨[(0,.slw (.O 0) (.i .u8) 0)],[],[some (.row true (.i .u8) [])]⟩],nS N⟩
theorem aD0(N:Nat):aD Tryz.prog (aQ6 N):=xf N (tc (tR N) tn) [7] [] 0 Tryz.func82 rfl (by kernel_rfl) fun a=>by kernel_rfl
def eZ(N:Nat)(rec3:TK->Int->Int->TC->Option TC)(d:TK)(e c:Int)(a:TC):Option TC:=if? (decide (c<e)) (aU d c fun f=>bd? (nS N f) fun b=>gl? a.length a (gl? b.length b (gd? (((a.length+b.length)*1)<=140737488355328) (ck .i64 (c+1) (gl? ((a++b).length) (a++b) (rec3 d e (c+1) (a++b))))))) (gl? a.length a (some a))
def fB(N:Nat):Nat->TK->Int->Int->TC->Option TC:=aL [(.sl .s),tC,tC,tH] (eZ N)
def mE(N:Nat)(a:TK):Option TC:=bd? (eI N (a.length:Int)) fun b=>gl? b.length b (fB N N a (a.length:Int) 0 b)
abbrev aC7(N:Nat):Sig:=⟨94,⟨[(0,dd (.sl .s)),(1,.clo 82 [])],[],[]⟩,[⟨[(0,.slw (.O 0) (.i .u8) 0)],[],[some (.row true (.i .u8) [])]⟩],mE N⟩
theorem aC5(N:Nat):aD Tryz.prog (aC7 N):=xf N (tc (tR N) (tc (aD0 N) tn)) [21] [⟨4,false,⟨[(1,.clo 82 []),(5,.slw (.O 0) (.i .u8) 0),(11,dd (.sl .s)),(12,dd tC),(13,dd tC)],[],[some (.row true (.i .u8) [])]⟩⟩] 0 Tryz.func94 rfl (by kernel_rfl) fun a=>by kernel_rfl
def jM(N:Nat)(b:TK):Option TC:=bd? (mE N b) fun a=>gl? a.length a (some a)
abbrev aLa(N:Nat):Sig:=⟨43,⟨[(0,dd (.sl .s))],[],[]⟩,[⟨[(0,.slw (.O 0) (.i .u8) 0)],[],[some (.row true (.i .u8) [])]⟩],jM N⟩
theorem aAd(N:Nat):aD Tryz.prog (aLa N):=xf N (tc (aC5 N) tn) [] [] 0 Tryz.func43 rfl (by kernel_rfl) fun a=>by kernel_rfl
def kG(N:Nat)(rec2:TE->Int->Int->Int->Int->Int->Int->Int->Int->Int->TE->TK->Option Str)(h:TE)(i f:Int)(j k:Int)(l m:Int)(n o p:Int)(q:TE)(b:TK):Option Str:=if? (decide (f<i)) (aU h f fun c=>bd? (if? c.2.1 (gl? b.length b (some ((1:Int),h,i,f,j,k,l,m,n,o,p,q,b,c.1,c.2.1,c.2.2.1,c.2.2.2))) (gl? b.length b (some ((0:Int),h,i,f,j,k,l,m,n,o,p,q,b,c.1,c.2.1,c.2.2.1,c.2.2.2)))) fun a=>bd? (eI N a.2.2.2.2.2.2.2.2.2.2.2.2.2.1) fun d=>gl? d.length d (bd? (eI N a.1) fun e=>gl? e.length e (gl? a.2.2.2.2.2.2.2.2.2.2.2.2.1.length a.2.2.2.2.2.2.2.2.2.2.2.2.1 (gd? (((a.2.2.2.2.2.2.2.2.2.2.2.2.1.length+[(aO d),(aO e),a.2.2.2.2.2.2.2.2.2.2.2.2.2.2.2.1,a.2.2.2.2.2.2.2.2.2.2.2.2.2.2.2.2].length)*16)<=140737488355328) (ck .i64 (a.2.2.2.1+1) (gl? ((a.2.2.2.2.2.2.2.2.2.2.2.2.1++[(aO d),(aO e),a.2.2.2.2.2.2.2.2.2.2.2.2.2.2.2.1,a.2.2.2.2.2.2.2.2.2.2.2.2.2.2.2.2]).length) (a.2.2.2.2.2.2.2.2.2.2.2.2.1++[(aO d),(aO e),a.2.2.2.2.2.2.2.2.2.2.2.2.2.2.2.1,a.2.2.2.2.2.2.2.2.2.2.2.2.2.2.2.2]) (rec2 a.2.1 a.2.2.1 (a.2.2.2.1+1) a.2.2.2.2.1 a.2.2.2.2.2.1 a.2.2.2.2.2.2.1 a.2.2.2.2.2.2.2.1 a.2.2.2.2.2.2.2.2.1 a.2.2.2.2.2.2.2.2.2.1 a.2.2.2.2.2.2.2.2.2.2.1 a.2.2.2.2.2.2.2.2.2.2.2.1 (a.2.2.2.2.2.2.2.2.2.2.2.2.1++[(aO d),(aO e),a.2.2.2.2.2.2.2.2.2.2.2.2.2.2.2.1,a.2.2.2.2.2.2.2.2.2.2.2.2.2.2.2.2])))))))) (bd? (gD N [2,j,k,l,m,n,o,p]) fun r=>gl? b.length b (bd? (jM N b) fun g=>gl? g.length g (gd? ((r.length+(aO g).length)<=9223372036854775807) (some (r++(aO g))))))
def jO(N:Nat):Nat->TE->Int->Int->Int->Int->Int->Int->Int->Int->Int->TE->TK->Option Str:=aL [(.sl tE),tC,tC,tC,tC,tC,tC,tC,tC,tC,(.sl tE),(.sl .s)] (kG N)
def gL(N:Nat)(a:TH):Option Str:=jO N N a.2.2.2.2.2.2.2 (a.2.2.2.2.2.2.2.length:Int) 0 a.1 a.2.1 a.2.2.1 a.2.2.2.1 a.2.2.2.2.1 a.2.2.2.2.2.1 a.2.2.2.2.2.2.1 a.2.2.2.2.2.2.2 ([]:TK)
abbrev aM1(N:Nat):Sig:=⟨77,⟨[(0,dd tA)],[],[]⟩,[⟨[(0,dd .s)],[],[]⟩],gL N⟩
theorem zB(N:Nat):aD Tryz.prog (aM1 N):=xf N (tc (tR N) (tc (zE N) (tc (aAd N) tn))) [33] [⟨10,true,⟨[(1,.ptr (.O 0) 0),(3,.slw (.O 1) .s 0),(5,.ptr (.O 2) 0),(6,dd tC),(9,dd (.sl tE)),(10,dd tC),(11,dd tC)],[],[some (.box [dd tC,dd tC,dd tC,dd tC,dd tC,dd tC,dd tC,dd (.sl tE)]),some (.row true .s []),some (.box [dd tC,dd .b,dd .s,dd .s])]⟩⟩,⟨4,false,⟨[(1,.ptr (.O 0) 0),(3,.slw (.O 1) .s 0),(9,dd (.sl tE)),(10,dd tC),(11,dd tC)],[],[some (.box [dd tC,dd tC,dd tC,dd tC,dd tC,dd tC,dd tC,dd (.sl tE)]),some (.row true .s [])]⟩⟩] 0 Tryz.func77 rfl (by kernel_rfl) fun a=>by kernel_rfl
def iG(N:Nat)(g:TA->Int->Int->TK->Option TK)(e:TA)(f c:Int)(a:TK):Option TK:=if? (decide (c<f)) (aU e c fun b=>bd? (gL N (b.1,(b.2.1,(b.2.2.1,(b.2.2.2.1,(b.2.2.2.2.1,(b.2.2.2.2.2.1,(b.2.2.2.2.2.2.1,b.2.2.2.2.2.2.2)))))))) fun d=>gl? a.length a (gd? (((a.length+[d].length)*16)<=140737488355328) (ck .i64 (c+1) (gl? ((a++[d]).length) (a++[d]) (g e f (c+1) (a++[d])))))) (gl? a.length a (some a))
def iR(N:Nat):Nat->TA->Int->Int->TK->Option TK:=aL [(.sl tA),tC,tC,(.sl .s)] (iG N)
def iH(N:Nat)(rec2:TG->Int->Int->Int->TG->TA->TK->Option TK)(f:TG)(g c h:Int)(i:TG)(e:TA)(a:TK):Option TK:=if? (decide (c<g)) (aU f c fun b=>bd? (gA N (b.1,(b.2.1,(b.2.2.1,(b.2.2.2.1,(b.2.2.2.2.1,b.2.2.2.2.2)))))) fun d=>gl? a.length a (gd? (((a.length+[d].length)*16)<=140737488355328) (ck .i64 (c+1) (gl? ((a++[d]).length) (a++[d]) (rec2 f g (c+1) h i e (a++[d])))))) (gl? a.length a (iR N N e (e.length:Int) 0 a))
def iP(N:Nat):Nat->TG->Int->Int->Int->TG->TA->TK->Option TK:=aL [(.sl tB),tC,tC,tC,(.sl tB),(.sl tA),(.sl .s)] (iH N)
def eP(N:Nat)(a:TF):Option TK:=iP N N a.2.1 (a.2.1.length:Int) 0 a.1 a.2.1 a.2.2 ([]:TK)
abbrev aIj(N:Nat):Sig:=⟨44,⟨[(0,dd tD)],[],[]⟩,[⟨[(0,.slw (.O 0) .s 0)],[],[some (.row true .s [])]⟩],eP N⟩
theorem yM(N:Nat):aD Tryz.prog (aIj N):=xf N (tc (zI N) (tc (zB N) tn)) [19,32] [⟨11,false,⟨[(3,.slw (.O 0) .s 0),(22,dd (.sl tA)),(23,dd tC),(24,dd tC)],[],[some (.row true .s [])]⟩⟩,⟨4,false,⟨[(1,.ptr (.O 0) 0),(3,.slw (.O 1) .s 0),(9,dd (.sl tB)),(10,dd tC),(11,dd tC)],[],[some (.box [dd tC,dd (.sl tB),dd (.sl tA)]),some (.row true .s [])]⟩⟩] 0 Tryz.func44 rfl (by kernel_rfl) fun a=>by kernel_rfl
def rE(N:Nat)(a:TB)(b:TJ):Option (Bool×TJ):=bd? (gA N (a.1,(a.2.1,(a.2.2.1,(a.2.2.2.1,(a.2.2.2.2.1,a.2.2.2.2.2)))))) fun c=>some ((!((fM b c).getD false)),b)
abbrev aBo(N:Nat):Sig:=⟨73,⟨[(0,dd tB),(1,.ptr (.B 0) 0)],[some (.box [.mref (.B 1)]),some (.mp false .s .b [] none none)],[]⟩,[⟨[(0,dd .b)],[some (.box [.mref (.O 0)]),none],[some (.mp false .s .b [] none none)]⟩],rE N⟩
theorem aB2(N:Nat):aD Tryz.prog (aBo N):=xf N (tc (zI N) tn) [] [] 1 Tryz.func73 rfl (by kernel_rfl) fun a=>by kernel_rfl
def uG(N:Nat)(rec3:TG->Int->Int->TG->TJ->Option (TG×TJ))(e:TG)(f d:Int)(b:TG)(h:TJ):Option (TG×TJ):=if? (decide (d<f)) (bd? (aU e d fun a=>bd? (rE N (a.1,(a.2.1,(a.2.2.1,(a.2.2.2.1,(a.2.2.2.2.1,a.2.2.2.2.2))))) h) fun g=>if? g.1 (gl? b.length b (gd? (((b.length+[(a.1,(a.2.1,(a.2.2.1,(a.2.2.2.1,(a.2.2.2.2.1,a.2.2.2.2.2)))))].length)*48)<=140737488355328) (gl? ((b++[(a.1,(a.2.1,(a.2.2.1,(a.2.2.2.1,(a.2.2.2.2.1,a.2.2.2.2.2)))))]).length) (b++[(a.1,(a.2.1,(a.2.2.1,(a.2.2.2.1,(a.2.2.2.2.1,a.2.2.2.2.2)))))]) (some (e,f,d,(b++[(a.1,(a.2.1,(a.2.2.1,(a.2.2.2.1,(a.2.2.2.2.1,a.2.2.2.2.2)))))]),g.2))))) (gl? b.length b (some (e,f,d,b,g.2)))) fun c=>ck .i64 (c.2.2.1+1) (gl? c.2.2.2.1.length c.2.2.2.1 (rec3 c.1 c.2.1 (c.2.2.1+1) c.2.2.2.1 c.2.2.2.2))) (gl? b.length b (some (b,h)))
def uH(N:Nat):Nat->TG->Int->Int->TG->TJ->Option (TG×TJ):=aL [(.sl tB),tC,tC,(.sl tB),(.sl (.p .s .b))] (uG N)
def mV(N:Nat)(a:TG)(b:TJ):Option (TG×TJ):=uH N N a (a.length:Int) 0 ([]:TG) b
abbrev vW(N:Nat):Sig:=⟨72,⟨[(0,dd (.sl tB)),(1,.clo 73 [.ptr (.B 0) 0])],[some (.box [.mref (.B 1)]),some (.mp false .s .b [] none none)],[]⟩,[⟨[(0,.slw (.O 0) tB 0)],[some (.box [.mref (.O 1)]),none],[some (.row true tB []),some (.mp false .s .b [] none none)]⟩],mV N⟩
theorem wD(N:Nat):aD Tryz.prog (vW N):=xf N (tc (aB2 N) tn) [16,5000073,20] [⟨7,true,⟨[(1,.clo 73 [.ptr (.B 0) 0]),(5,.slw (.O 0) tB 0),(8,dd (.sl tB)),(9,dd tC),(10,dd tC)],[some (.box [.mref (.O 1)]),none],[some (.row true tB []),some (.mp false .s .b [] none none)]⟩⟩,⟨4,false,⟨[(1,.clo 73 [.ptr (.B 0) 0]),(5,.slw (.O 0) tB 0),(8,dd (.sl tB)),(9,dd tC),(10,dd tC)],[some (.box [.mref (.O 1)]),none],[some (.row true tB []),some (.mp false .s .b [] none none)]⟩⟩] 1 Tryz.func72 rfl (by kernel_rfl) fun a=>by kernel_rfl
def rA(N:Nat)(a:TH)(b:TJ):Option (Bool×TJ):=bd? (gL N (a.1,(a.2.1,(a.2.2.1,(a.2.2.2.1,(a.2.2.2.2.1,(a.2.2.2.2.2.1,(a.2.2.2.2.2.2.1,a.2.2.2.2.2.2.2)))))))) fun c=>some ((!((fM b c).getD false)),b)
abbrev aBz(N:Nat):Sig:=⟨76,⟨[(0,dd tA),(1,.ptr (.B 0) 0)],[some (.box [.mref (.B 1)]),some (.mp false .s .b [] none none)],[]⟩,[⟨[(0,dd .b)],[some (.box [.mref (.O 0)]),none],[some (.mp false .s .b [] none none)]⟩],rA N⟩
theorem aB3(N:Nat):aD Tryz.prog (aBz N):=xf N (tc (zB N) tn) [] [] 1 Tryz.func76 rfl (by kernel_rfl) fun a=>by kernel_rfl
def uC(N:Nat)(rec3:TA->Int->Int->TA->TJ->Option (TA×TJ))(e:TA)(f d:Int)(b:TA)(h:TJ):Option (TA×TJ):=if? (decide (d<f)) (bd? (aU e d fun a=>bd? (rA N (a.1,(a.2.1,(a.2.2.1,(a.2.2.2.1,(a.2.2.2.2.1,(a.2.2.2.2.2.1,(a.2.2.2.2.2.2.1,a.2.2.2.2.2.2.2))))))) h) fun g=>if? g.1 (gl? b.length b (gd? (((b.length+[(a.1,(a.2.1,(a.2.2.1,(a.2.2.2.1,(a.2.2.2.2.1,(a.2.2.2.2.2.1,(a.2.2.2.2.2.2.1,a.2.2.2.2.2.2.2)))))))].length)*80)<=140737488355328) (gl? ((b++[(a.1,(a.2.1,(a.2.2.1,(a.2.2.2.1,(a.2.2.2.2.1,(a.2.2.2.2.2.1,(a.2.2.2.2.2.2.1,a.2.2.2.2.2.2.2)))))))]).length) (b++[(a.1,(a.2.1,(a.2.2.1,(a.2.2.2.1,(a.2.2.2.2.1,(a.2.2.2.2.2.1,(a.2.2.2.2.2.2.1,a.2.2.2.2.2.2.2)))))))]) (some (e,f,d,(b++[(a.1,(a.2.1,(a.2.2.1,(a.2.2.2.1,(a.2.2.2.2.1,(a.2.2.2.2.2.1,(a.2.2.2.2.2.2.1,a.2.2.2.2.2.2.2)))))))]),g.2))))) (gl? b.length b (some (e,f,d,b,g.2)))) fun c=>ck .i64 (c.2.2.1+1) (gl? c.2.2.2.1.length c.2.2.2.1 (rec3 c.1 c.2.1 (c.2.2.1+1) c.2.2.2.1 c.2.2.2.2))) (gl? b.length b (some (b,h)))
def tZ(N:Nat):Nat->TA->Int->Int->TA->TJ->Option (TA×TJ):=aL [(.sl tA),tC,tC,(.sl tA),(.sl (.p .s .b))] (uC N)
def mS(N:Nat)(a:TA)(b:TJ):Option (TA×TJ):=tZ N N a (a.length:Int) 0 ([]:TA) b
abbrev wU(N:Nat):Sig:=⟨75,⟨[(0,dd (.sl tA)),(1,.clo 76 [.ptr (.B 0) 0])],[some (.box [.mref (.B 1)]),some (.mp false .s .b [] none none)],[]⟩,[⟨[(0,.slw (.O 0) tA 0)],[some (.box [.mref (.O 1)]),none],[some (.row true tA []),some (.mp false .s .b [] none none)]⟩],mS N⟩
theorem wG(N:Nat):aD Tryz.prog (wU N):=xf N (tc (aB3 N) tn) [16,5000076,20] [⟨7,true,⟨[(1,.clo 76 [.ptr (.B 0) 0]),(5,.slw (.O 0) tA 0),(8,dd (.sl tA)),(9,dd tC),(10,dd tC)],[some (.box [.mref (.O 1)]),none],[some (.row true tA []),some (.mp false .s .b [] none none)]⟩⟩,⟨4,false,⟨[(1,.clo 76 [.ptr (.B 0) 0]),(5,.slw (.O 0) tA 0),(8,dd (.sl tA)),(9,dd tC),(10,dd tC)],[some (.box [.mref (.O 1)]),none],[some (.row true tA []),some (.mp false .s .b [] none none)]⟩⟩] 1 Tryz.func75 rfl (by kernel_rfl) fun a=>by kernel_rfl
def aBw(N:Nat)(l:Int->Int->Int->TG->TA->Int->TK->TG->TA->TJ->Option TO)(j d a:Int)(b:TG)(c:TA)(m:Int)(e:TK)(g:TG)(h:TA)(k:TJ):Option TO:=if? (decide (d<j)) (gd? (0<=d) (gd? (d<(e.length:Int)) (gn? e d.toNat fun n=>ck .i64 (d+1) (gl? e.length e (gl? g.length g (gl? h.length h (l j (d+1) a b c m e g h (oT k n true)))))))) (bd? (mV N b k) fun f=>gd? (a=a) (gd? (b=b) (gd? (c=c) (bd? (mS N c f.2) fun i=>gd? (a=a) (gd? (b=b) (gd? (c=c) (gd? (a=a) (gd? (b=b) (gd? (c=c) (gl? f.1.length f.1 (gl? i.1.length i.1 (some (a,(f.1,(i.1,0)))))))))))))))
def aBn(N:Nat):Nat->Int->Int->Int->TG->TA->Int->TK->TG->TA->TJ->Option TO:=aL [tC,tC,tC,(.sl tB),(.sl tA),tC,(.sl .s),(.sl tB),(.sl tA),(.sl (.p .s .b))] (aBw N)
def uV(N:Nat)(a b:TF):Option TO:=bd? (nN N (a.1,(a.2.1,a.2.2)) (b.1,(b.2.1,b.2.2))) fun d=>if? (d !=0) (some (0,(([]:TG),(([]:TA),d)))) (bd? (eP N (a.1,(a.2.1,a.2.2))) fun c=>gl? c.length c (aBn N N (c.length:Int) 0 b.1 b.2.1 b.2.2 0 c ([]:TG) ([]:TA) ([]:TJ)))
abbrev aD1(N:Nat):Sig:=⟨29,⟨[(0,dd tD),(1,dd tD)],[],[]⟩,[⟨[(0,.agg [dd tC,dd (.sl tB),dd (.sl tA)]),(1,dd tC)],[],[]⟩],uV N⟩
theorem aEv(N:Nat):aD Tryz.prog (aD1 N):=xf N (tc (sI N) (tc (yM N) (tc (wD N) (tc (wG N) tn)))) [5000075,28,29,30,31,34,35,5000072] [⟨8,false,⟨[(3,.ptr (.O 0) 0),(4,.ptr (.O 1) 0),(7,.ptr (.O 2) 0),(19,.slw (.O 3) .s 0),(20,dd tC),(21,dd tC)],[],[some (.box [dd tC,dd (.sl tB),dd (.sl tA)]),some (.box [dd tC,.slw (.O 4) tB 0,.slw (.O 5) tA 0]),some (.box [.mref (.O 6)]),some (.row true .s []),some (.row true tB []),some (.row true tA []),some (.mp false .s .b [] none none)]⟩⟩] 0 Tryz.func29 rfl (by kernel_rfl) fun a=>by kernel_rfl
def aBx(i:TG->Int->Int->TU->TR->Option (Int×TR))(g:TG)(h f:Int)(c:TU)(d:TR):Option (Int×TR):=if? (decide (f<h)) (bd? (aU g f fun b=>bd? (if? ((fM c (b.1,b.2.1)).isSome) (gl? d.length d (some (g,h,f,(!(nB [1,1,1,1,1] (((fM c (b.1,b.2.1)).getD (0,(0,(0,(0,(0,0)))))).1==b.1) (nB [1,1,1,1] (((fM c (b.1,b.2.1)).getD (0,(0,(0,(0,(0,0)))))).2.1==b.2.1) (nB [1,1,1] (((fM c (b.1,b.2.1)).getD (0,(0,(0,(0,(0,0)))))).2.2.1==b.2.2.1) (nB [1,1] (((fM c (b.1,b.2.1)).getD (0,(0,(0,(0,(0,0)))))).2.2.2.1==b.2.2.2.1) (nB [1] (((fM c (b.1,b.2.1)).getD (0,(0,(0,(0,(0,0)))))).2.2.2.2.1==b.2.2.2.2.1) (nB ([]:(List Nat)) (((fM c (b.1,b.2.1)).getD (0,(0,(0,(0,(0,0)))))).2.2.2.2.2==b.2.2.2.2.2) true))))))),c,d,b.1,b.2.1,b.2.2.1,b.2.2.2.1,b.2.2.2.2.1,b.2.2.2.2.2,((fM c (b.1,b.2.1)).getD (0,(0,(0,(0,(0,0)))))).1,((fM c (b.1,b.2.1)).getD (0,(0,(0,(0,(0,0)))))).2.1,((fM c (b.1,b.2.1)).getD (0,(0,(0,(0,(0,0)))))).2.2.1,((fM c (b.1,b.2.1)).getD (0,(0,(0,(0,(0,0)))))).2.2.2.1,((fM c (b.1,b.2.1)).getD (0,(0,(0,(0,(0,0)))))).2.2.2.2.1,((fM c (b.1,b.2.1)).getD (0,(0,(0,(0,(0,0)))))).2.2.2.2.2))) (gl? d.length d (some (g,h,f,false,c,d,b.1,b.2.1,b.2.2.1,b.2.2.2.1,b.2.2.2.2.1,b.2.2.2.2.2,((fM c (b.1,b.2.1)).getD (0,(0,(0,(0,(0,0)))))).1,((fM c (b.1,b.2.1)).getD (0,(0,(0,(0,(0,0)))))).2.1,((fM c (b.1,b.2.1)).getD (0,(0,(0,(0,(0,0)))))).2.2.1,((fM c (b.1,b.2.1)).getD (0,(0,(0,(0,(0,0)))))).2.2.2.1,((fM c (b.1,b.2.1)).getD (0,(0,(0,(0,(0,0)))))).2.2.2.2.1,((fM c (b.1,b.2.1)).getD (0,(0,(0,(0,(0,0)))))).2.2.2.2.2)))) fun a=>if? a.2.2.2.1 (gl? a.2.2.2.2.2.1.length a.2.2.2.2.2.1 (gd? (((a.2.2.2.2.2.1.length+[((a.2.2.2.2.2.2.1,(a.2.2.2.2.2.2.2.1,(a.2.2.2.2.2.2.2.2.1,(a.2.2.2.2.2.2.2.2.2.1,(a.2.2.2.2.2.2.2.2.2.2.1,a.2.2.2.2.2.2.2.2.2.2.2.1))))),(a.2.2.2.2.2.2.2.2.2.2.2.2.1,(a.2.2.2.2.2.2.2.2.2.2.2.2.2.1,(a.2.2.2.2.2.2.2.2.2.2.2.2.2.2.1,(a.2.2.2.2.2.2.2.2.2.2.2.2.2.2.2.1,(a.2.2.2.2.2.2.2.2.2.2.2.2.2.2.2.2.1,a.2.2.2.2.2.2.2.2.2.2.2.2.2.2.2.2.2))))))].length)*96)<=140737488355328) (gl? ((a.2.2.2.2.2.1++[((a.2.2.2.2.2.2.1,(a.2.2.2.2.2.2.2.1,(a.2.2.2.2.2.2.2.2.1,(a.2.2.2.2.2.2.2.2.2.1,(a.2.2.2.2.2.2.2.2.2.2.1,a.2.2.2.2.2.2.2.2.2.2.2.1))))),(a.2.2.2.2.2.2.2.2.2.2.2.2.1,(a.2.2.2.2.2.2.2.2.2.2.2.2.2.1,(a.2.2.2.2.2.2.2.2.2.2.2.2.2.2.1,(a.2.2.2.2.2.2.2.2.2.2.2.2.2.2.2.1,(a.2.2.2.2.2.2.2.2.2.2.2.2.2.2.2.2.1,a.2.2.2.2.2.2.2.2.2.2.2.2.2.2.2.2.2))))))]).length) (a.2.2.2.2.2.1++[((a.2.2.2.2.2.2.1,(a.2.2.2.2.2.2.2.1,(a.2.2.2.2.2.2.2.2.1,(a.2.2.2.2.2.2.2.2.2.1,(a.2.2.2.2.2.2.2.2.2.2.1,a.2.2.2.2.2.2.2.2.2.2.2.1))))),(a.2.2.2.2.2.2.2.2.2.2.2.2.1,(a.2.2.2.2.2.2.2.2.2.2.2.2.2.1,(a.2.2.2.2.2.2.2.2.2.2.2.2.2.2.1,(a.2.2.2.2.2.2.2.2.2.2.2.2.2.2.2.1,(a.2.2.2.2.2.2.2.2.2.2.2.2.2.2.2.2.1,a.2.2.2.2.2.2.2.2.2.2.2.2.2.2.2.2.2))))))]) (some (a.1,a.2.1,a.2.2.1,a.2.2.2.2.1,(a.2.2.2.2.2.1++[((a.2.2.2.2.2.2.1,(a.2.2.2.2.2.2.2.1,(a.2.2.2.2.2.2.2.2.1,(a.2.2.2.2.2.2.2.2.2.1,(a.2.2.2.2.2.2.2.2.2.2.1,a.2.2.2.2.2.2.2.2.2.2.2.1))))),(a.2.2.2.2.2.2.2.2.2.2.2.2.1,(a.2.2.2.2.2.2.2.2.2.2.2.2.2.1,(a.2.2.2.2.2.2.2.2.2.2.2.2.2.2.1,(a.2.2.2.2.2.2.2.2.2.2.2.2.2.2.2.1,(a.2.2.2.2.2.2.2.2.2.2.2.2.2.2.2.2.1,a.2.2.2.2.2.2.2.2.2.2.2.2.2.2.2.2.2))))))])))))) (gl? a.2.2.2.2.2.1.length a.2.2.2.2.2.1 (some (a.1,a.2.1,a.2.2.1,a.2.2.2.2.1,a.2.2.2.2.2.1)))) fun e=>ck .i64 (e.2.2.1+1) (gl? e.2.2.2.2.length e.2.2.2.2 (i e.1 e.2.1 (e.2.2.1+1) e.2.2.2.1 e.2.2.2.2))) (gl? d.length d (some (0,d)))
def aBm:Nat->TG->Int->Int->TU->TR->Option (Int×TR):=aL [(.sl tB),tC,tC,(.sl (.p tO tB)),(.sl tL)] (aBx)
def aBt(N:Nat)(g:TG->Int->Int->Int->TG->TA->TU->Option (Int×TR))(d:TG)(e b h:Int)(c:TG)(i:TA)(f:TU):Option (Int×TR):=if? (decide (b<e)) (aU d b fun a=>ck .i64 (b+1) (g d e (b+1) h c i (oT f (a.1,a.2.1) (a.1,(a.2.1,(a.2.2.1,(a.2.2.2.1,(a.2.2.2.2.1,a.2.2.2.2.2)))))))) (aBm N c (c.length:Int) 0 f ([]:TR))
def aBy(N:Nat):Nat->TG->Int->Int->Int->TG->TA->TU->Option (Int×TR):=aL [(.sl tB),tC,tC,tC,(.sl tB),(.sl tA),(.sl (.p tO tB))] (aBt N)
def uW(N:Nat)(a b:TF):Option (Int×TR):=bd? (nN N (a.1,(a.2.1,a.2.2)) (b.1,(b.2.1,b.2.2))) fun c=>if? (c !=0) (some (c,([]:TR))) (aBy N N b.2.1 (b.2.1.length:Int) 0 a.1 a.2.1 a.2.2 ([]:TU))
abbrev aFc(N:Nat):Sig:=⟨30,⟨[(0,dd tD),(1,dd tD)],[],[]⟩,[⟨[(0,.slw (.O 0) tL 0),(1,dd tC)],[],[some (.row true tL [])]⟩],uW N⟩
theorem aFr(N:Nat):aD Tryz.prog (aFc N):=xf N (tc (sI N) tn) [65] [⟨19,true,⟨[(7,.mref (.O 0)),(10,.slw (.O 1) tL 0),(38,dd (.sl tB)),(39,dd tC),(40,dd tC)],[],[some (.mp false tO tB [] none none),some (.row true tL [])]⟩⟩,⟨22,true,⟨[(7,.mref (.O 0)),(10,.slw (.O 1) tL 0),(12,.ptr (.O 2) 0),(13,.ptr (.O 3) 0),(38,dd (.sl tB)),(39,dd tC),(40,dd tC),(59,dd .b)],[],[some (.mp false tO tB [] none none),some (.row true tL []),some (.box [dd tC,dd tC,dd tC,dd tC,dd tC,dd tC]),some (.box [dd tC,dd tC,dd tC,dd tC,dd tC,dd tC])]⟩⟩,⟨16,false,⟨[(7,.mref (.O 0)),(10,.slw (.O 1) tL 0),(38,dd (.sl tB)),(39,dd tC),(40,dd tC)],[],[some (.mp false tO tB [] none none),some (.row true tL [])]⟩⟩,⟨8,false,⟨[(2,.ptr (.O 0) 0),(7,.mref (.O 1)),(23,dd (.sl tB)),(24,dd tC),(25,dd tC)],[],[some (.box [dd tC,dd (.sl tB),dd (.sl tA)]),some (.mp false tO tB [] none none)]⟩⟩] 0 Tryz.func30 rfl (by kernel_rfl) fun a=>by kernel_rfl
end Go.Proofs.Tryz
namespace Go.Proofs
open Go.Shelf
def Tryz.lays189_ren:Go.Shelf.Ren:=⟨fun|189=>91|125=>134|257=>133|128=>160|129=>161|294=>151|295=>152|296=>153|297=>154|298=>155|299=>156|216=>157|300=>158|301=>159|328=>177|329=>178|330=>179|331=>180|332=>181|215=>168|343=>189|n=>n,fun|28=>167|3=>3|46=>170|0=>0|51=>154|53=>157|4=>4|183=>233|182=>232|131=>230|5=>5|9=>9|218=>250|222=>254|228=>263|229=>264|n=>n,fun|n=>n⟩
theorem Tryz.lays189:Go.Proofs.Lays.n189 Tryz.prog Tryz.lays189_ren:={
 mixed:=by kernel_rfl
 f125:=Tryz.func134.trans (congrArg some (by kernel_rfl))
 f128:=Tryz.func160.trans (congrArg some (by kernel_rfl))
 f129:=Tryz.func161.trans (congrArg some (by kernel_rfl))
 f189:=Tryz.func91.trans (congrArg some (by kernel_rfl))
 f215:=Tryz.func168.trans (congrArg some (by kernel_rfl))
 f216:=Tryz.func157.trans (congrArg some (by kernel_rfl))
 f257:=Tryz.func133.trans (congrArg some (by kernel_rfl))
 f294:=Tryz.func151.trans (congrArg some (by kernel_rfl))
 f295:=Tryz.func152.trans (congrArg some (by kernel_rfl))
 f296:=Tryz.func153.trans (congrArg some (by kernel_rfl))
 f297:=Tryz.func154.trans (congrArg some (by kernel_rfl))
 f298:=Tryz.func155.trans (congrArg some (by kernel_rfl))
 f299:=Tryz.func156.trans (congrArg some (by kernel_rfl))
 f300:=Tryz.func158.trans (congrArg some (by kernel_rfl))
 f301:=Tryz.func159.trans (congrArg some (by kernel_rfl))
 f328:=Tryz.func177.trans (congrArg some (by kernel_rfl))
 f329:=Tryz.func178.trans (congrArg some (by kernel_rfl))
 f330:=Tryz.func179.trans (congrArg some (by kernel_rfl))
 f331:=Tryz.func180.trans (congrArg some (by kernel_rfl))
 f332:=Tryz.func181.trans (congrArg some (by kernel_rfl))
 f343:=Tryz.func189.trans (congrArg some (by kernel_rfl))
 t0:=Tryz.underlying0
 a0:=Tryz.isAgg0
 z0:=Tryz.sizeOf0
 v0:=Tryz.zeroValue0
 t3:=Tryz.underlying3
 a3:=Tryz.isAgg3
 z3:=Tryz.sizeOf3
 v3:=Tryz.zeroValue3
 t4:=Tryz.underlying4
 a4:=Tryz.isAgg4
 z4:=Tryz.sizeOf4
 v4:=Tryz.zeroValue4
 t5:=Tryz.underlying5
 a5:=Tryz.isAgg5
 z5:=Tryz.sizeOf5
 v5:=Tryz.zeroValue5
 t9:=Tryz.underlying9
 a9:=Tryz.isAgg9
 z9:=Tryz.sizeOf9
 v9:=Tryz.zeroValue9
 t28:=Tryz.underlying167
 a28:=Tryz.isAgg167
 z28:=Tryz.sizeOf167
 v28:=Tryz.zeroValue167
 t46:=Tryz.underlying170
 a46:=Tryz.isAgg170
 z46:=Tryz.sizeOf170
 v46:=Tryz.zeroValue170
 t51:=Tryz.underlying154
 a51:=Tryz.isAgg154
 z51:=Tryz.sizeOf154
 v51:=Tryz.zeroValue154
 t53:=Tryz.underlying157
 a53:=Tryz.isAgg157
 z53:=Tryz.sizeOf157
 v53:=Tryz.zeroValue157
 t131:=Tryz.underlying230
 a131:=Tryz.isAgg230
 z131:=Tryz.sizeOf230
 v131:=Tryz.zeroValue230
 t182:=Tryz.underlying232
 a182:=Tryz.isAgg232
 z182:=Tryz.sizeOf232
 v182:=Tryz.zeroValue232
 t183:=Tryz.underlying233
 a183:=Tryz.isAgg233
 z183:=Tryz.sizeOf233
 v183:=Tryz.zeroValue233
 t218:=Tryz.underlying250
 a218:=Tryz.isAgg250
 z218:=Tryz.sizeOf250
 v218:=Tryz.zeroValue250
 t222:=Tryz.underlying254
 a222:=Tryz.isAgg254
 z222:=Tryz.sizeOf254
 v222:=Tryz.zeroValue254
 t228:=Tryz.underlying263
 a228:=Tryz.isAgg263
 z228:=Tryz.sizeOf263
 v228:=Tryz.zeroValue263
 t229:=Tryz.underlying264
 a229:=Tryz.isAgg264
 z229:=Tryz.sizeOf264
 v229:=Tryz.zeroValue264}
def Tryz.lays20_ren:Go.Shelf.Ren:=⟨fun|20=>92|n=>n,fun|22=>167|3=>3|4=>4|0=>0|n=>n,fun|n=>n⟩
theorem Tryz.lays20:Go.Proofs.Lays2.n20 Tryz.prog Tryz.lays20_ren:={
 mixed:=by kernel_rfl
 f20:=Tryz.func92.trans (congrArg some (by kernel_rfl))
 t0:=Tryz.underlying0
 a0:=Tryz.isAgg0
 z0:=Tryz.sizeOf0
 v0:=Tryz.zeroValue0
 t3:=Tryz.underlying3
 a3:=Tryz.isAgg3
 z3:=Tryz.sizeOf3
 v3:=Tryz.zeroValue3
 t4:=Tryz.underlying4
 a4:=Tryz.isAgg4
 z4:=Tryz.sizeOf4
 v4:=Tryz.zeroValue4
 t22:=Tryz.underlying167
 a22:=Tryz.isAgg167
 z22:=Tryz.sizeOf167
 v22:=Tryz.zeroValue167
 i3:=by kernel_rfl}
end Go.Proofs
namespace Go.Proofs.Tryz
open Go.Eng Go.RowKit Go.Sort Go.Shelf
variable{vs:Array Value}
def ins(x:Int):List Int->List Int
 |[]=>[x]
 |y::l=>if x<=y then x::y::l else y::ins x l
def srt:List Int->List Int
 |[]=>[]
 |x::l=>ins x (srt l)
theorem aKw(x:Int):∀l:List Int,(ins x l).Perm (x::l)
 |[]=>.refl _
 |y::l=>by
  unfold ins;split
  ·exact .refl _
  ·exact((aKw x l).cons y).trans (.swap x y l)
theorem aUt:∀l:List Int,(srt l).Perm l
 |[]=>.refl _
 |x::l=>(aKw x (srt l)).trans ((aUt l).cons x)
theorem aLx(x:Int):∀{l:List Int},l.Pairwise (· <=·)->(ins x l).Pairwise (· <=·)
 |[],_=>List.pairwise_singleton _ _
 |y::l,h=>by
  have h1:=gz.1 h;unfold ins;split
  ·rename_i hxy;exact gz.2 ⟨fun z hz=>by
    rcases bo.1 hz with rfl|hz
    ·exact hxy
    ·exact Int.le_trans hxy (h1.1 z hz),h⟩
  ·refine gz.2 ⟨fun z hz=>?_,aLx x h1.2⟩;rcases bo.1 ((aKw x l).mem_iff.1 hz)with rfl|hz
   ·omega
   ·exact h1.1 z hz
theorem aL0:∀l:List Int,(srt l).Pairwise (· <=·)
 |[]=>.nil
 |x::l=>aLx x (aL0 l)
theorem bQh(l:List Int):srt l=l.mergeSort fun x y=>decide (x<=y):=by refine List.Perm.eq_of_pairwise (le:=fun a b:Int=>a<=b) (fun _ _ _ _ h1 h2=>Int.le_antisymm h1 h2) (aL0 l) ?_ ((aUt l).trans (List.mergeSort_perm l _).symm);have:=List.pairwise_mergeSort (le:=fun x y:Int=>decide (x<=y)) (fun a b c h1 h2=>by simp only[decide_eq_true_eq]at*;omega) (fun a b=>by simp only[Bool.or_eq_true,decide_eq_true_eq];omega) l;exact this.imp fun h=>of_decide_eq_true h
def pA(_N:Nat)(xs:List Int):Option (List Int):=if xs.length<4611686018427387904 then some (srt xs)else none
abbrev oZ(N:Nat):Sig:=⟨91,⟨[(0,.slw (.B 0) (.i .i64) 0)],[some (.row true (.i .i64) [])],[]⟩,[⟨[],[some (.row true (.i .i64) [])],[]⟩],pA N⟩
def oN(xs:List Int):List (List DV):=xs.map fun x=>[DV.I .i64 x]
theorem aCd{G:Gh}{xs:List Int}(h:DV.rows G (fun o=>vs[o]?) 1 0 (oN xs)):vs.toList.take xs.length=xs.map (Value.int .i64):=by
 apply jc;intro j;by_cases hj:j<xs.length
 ·rw[c6 hj,bc];have h1:(oN xs)[j]?=some [DV.I .i64 xs[j]]:=by simp[oN,hj]
  obtain⟨_,h2⟩:=DV.rows_get h h1;obtain⟨⟨v,h3,h4⟩,_⟩:=h2;have h5:v=.int .i64 xs[j]:=h4;subst h5;rw[show 0+j*1=j by omega]at h3;have h3:vs[j]?=_:=h3;rw[h3];simp[hj]
 ·rw[List.getElem?_take_eq_none (by omega),bw (by simp;omega)]
theorem zC{G:Gh}{vs:Array Value}:∀{xs:List Int} {o:Nat},(∀j (h:j<xs.length),vs[o+j]?=some (Value.int .i64 xs[j]))->DV.rows G (fun o=>vs[o]?) 1 o (oN xs)
 |[],_,_=>trivial
 |x::xs,o,h=>by
  refine⟨rfl,⟨⟨.int .i64 x,?_,rfl⟩,trivial⟩,zC fun j hj=>?_⟩
  ·have:=h 0 (by simp);simpa using this
  ·have:=h (j+1) (by simpa using hj);rw[show o+1+j=o+(j+1) by omega,this];simp
theorem yZ(N:Nat):aD prog (oZ N):=by
 rintro _ ⟨xs,⟨⟩⟩ r hF nbs hn;have hF:(if xs.length<4611686018427387904 then some (srt xs)else none)=some r:=hF;rw[bQh]at hF;split at hF
 rotate_left
 ·cases hF
 rename_i hlen;cases hF;have hn:nbs.map some=([]:List (Option Blk)):=hn;obtain rfl:nbs=[]:=jd.1 hn;show ACall prog 91 [.sl (.B 0) 1 0 xs.length] [some (.row true 1 (oN xs))] (.tup []) [some (.row true 1 (oN (xs.mergeSort fun x y=>decide (x<=y))))] [];intro w G m vs hS hm hr;obtain⟨v0,l0,hv0,⟨h1,loc,hloc,h2⟩,h3⟩:=hr;subst h3;have hlk:∀(b:Blk) h bl,eK [some b] [] h=some bl->h=.B 0/\bl=b:=by
  intro b h bl e;cases h with
  |B i=>cases i with
   |zero=>cases e;exact⟨rfl,rfl⟩
   |succ i=>cases e
  |O i=>cases e
 have hnd:loc≠.dead:=by rintro rfl;cases hS.dead _ hloc
 have hfn:aYj prog 91:=⟨_,func91,rfl,rfl⟩;obtain rfl:vs=#[v0]:=by apply my;simpa using hv0
 refine .inl ⟨hfn,?_⟩;rcases h2 hnd with⟨a,rfl,h0⟩|⟨b,sz,cap,rfl,rfl,hc1,hc2⟩
 ·obtain rfl:xs=[]:=de.1 h0;refine(Any.slices_Sort_int_none lays189 a 0 w).mono ?_;rintro e w' ⟨rfl,rfl⟩;have e:([]:List Int).mergeSort (fun x y=>decide (x<=y))=[]:=List.mergeSort_nil;rw[e];exact⟨_,rfl,G,m,hS,⟨_,rfl,rfl⟩,Fr.refl _ _ _ _,fun i=>SameB.refl _,fun h l b h1 h2=>.inr ⟨h,l,h1,h2⟩,fun i _=>hm i⟩
 ·obtain⟨bl,hbl,hrep⟩:=hS.blk _ _ _ hloc;obtain⟨_,rfl⟩:=hlk _ _ _ hbl;obtain⟨cur,T,hb,hsz,hk,hrows,hG⟩:=hrep;have ht:=aCd hrows;have hle:xs.length<=cur.size:=by have:=congrArg List.length ht;simp at this;omega
  have hb0:b<w.heap.size:=(aq.1 hb).1;refine(Any.slices_Sort_int lays189 b (0*1) cap xs w (by rw[mq];exact holds_of_blockI hb ht) hb0 hlen).mono ?_;rintro e w' ⟨rfl,n,os,rfl⟩;generalize hys:xs.mergeSort (fun x y=>decide (x<=y))=ys;have hl:ys.length=xs.length:=by rw[<-hys];exact List.length_mergeSort _
  have hb':=heap_sortedI (n:=n) (os:=os) ys.toArray hb;have hgr:=grownBy_sortedI (w:=w) (g:=b) (n:=n) (os:=os) ys.toArray;have hdr:TD w (Sort.grow (putRow (Value.int .i64) (Sort.ahead w n) b 0 ys.toArray) os):=⟨rfl,iv _ _⟩;rw[mq];revert hb' hgr hdr;generalize Sort.grow (putRow (Value.int .i64) (Sort.ahead w n) b 0 ys.toArray) os=w';intro hb' hgr hdr;obtain⟨g1,g2,g3,g4,g5⟩:=hgr;refine⟨_,rfl,G,m,?_,⟨_,rfl,rfl⟩,⟨g1,hdr,g3,g4,fun b' hb1 ho=>?_,fun _ _ _ _=>rfl,Gh.le.refl G⟩,fun i=>SameB.refl _,fun h l b h1 h2=>.inr ⟨h,l,h1,h2⟩,fun i _=>hm i⟩
  ·refine⟨?_,?_,hS.injG,?_,?_,hS.gl,?_⟩
   ·intro h b2 sz2 hm2;obtain⟨bl,hbl,_⟩:=hS.blk _ _ _ hm2;obtain⟨rfl,rfl⟩:=hlk _ _ _ hbl;rw[hloc]at hm2;cases hm2;refine⟨_,rfl,_,T,hb',by rw[putCells,Array.size_mapIdx];exact hsz,by simpa[oN,hl]using hk,zC fun j hj=>?_,hG⟩;have:=congrArg (fun l=>l[j]?) (take_putCellsI cur ys (by omega));simp only[c6 hj,bc]at this;rw[bg,this];simp[hj]
   ·intro h hm2;obtain⟨mt,k,e⟩:=hS.nil _ hm2;obtain⟨rfl,_⟩:=hlk _ _ _ e;rw[hloc]at hm2;cases hm2
   ·intro b2 o v hg;have hne:b≠b2:=by rintro rfl;rw[hG o]at hg;cases hg
    have:=hS.gh _ _ _ hg;have hlt:b2<w.heap.size:=by
     simp only[World.cell?]at this;cases hx:w.heap[b2]?with
     |none=>rw[hx]at this;simp at this
     |some _=>exact(aq.1 hx).1
    have he:=g5 b2 hlt (fun e=>hne (Option.some.inj e).symm);simp only[World.cell?,he]at this|-;exact this
   ·intro h hd;have:=hS.dead _ hd;cases h with
    |B i=>cases i with
     |zero=>cases this
     |succ i=>rfl
    |O i=>rfl
   ·intro h b2 sz2 fp hm2;obtain⟨bl,hbl,_⟩:=hS.blkx _ _ _ _ hm2;obtain⟨rfl,_⟩:=hlk _ _ _ hbl;rw[hloc]at hm2;cases hm2
  ·exact g5 b' hb1 fun e=>ho (by cases e;exact Own.at_ hloc)
def lB(_N:Nat)(xs:List Int):Option (List Int):=if xs.length<=9223372036854775807 then some (Go.Lib.compact xs)else none
abbrev kZ(N:Nat):Sig:=⟨92,⟨[(0,.slw (.B 0) (.i .i64) 0)],[some (.row true (.i .i64) [])],[]⟩,[⟨[(0,.slw (.O 0) (.i .i64) 0)],[none],[some (.row true (.i .i64) [])]⟩],lB N⟩
theorem bNa(d:Array Int):∀m,(Go.Lib.compactUpTo d m).length<=m
 |0=>by simp[Go.Lib.compactUpTo]
 |m+1=>by rw[Go.Lib.compactUpTo_succ,ι];have:=bNa d m;split<;>simp<;>omega
theorem aW7(zs:List Int):(Go.Lib.compact zs).length<=zs.length:=by have:=bNa zs.toArray zs.toArray.size;simpa[Go.Lib.compact]using this
theorem vH(N:Nat):aD prog (kZ N):=by
 rintro _ ⟨xs,⟨⟩⟩ r hF nbs hn;have hF:(if xs.length<=9223372036854775807 then some (Go.Lib.compact xs)else none)=some r:=hF;split at hF
 rotate_left
 ·cases hF
 rename_i hlen;cases hF;have hn:nbs.map some=[some (Blk.row true 1 (oN (Go.Lib.compact xs)))]:=hn;obtain rfl:nbs=[Blk.row true 1 (oN (Go.Lib.compact xs))]:=by
  cases nbs with
  |nil=>cases hn
  |cons b l=>
   cases l with
   |nil=>cases hn;rfl
   |cons _ _=>cases hn
 show ACall prog 92 [.sl (.B 0) 1 0 xs.length] [some (.row true 1 (oN xs))] (.sl (.O 0) 1 0 (Go.Lib.compact xs).length) [none] [Blk.row true 1 (oN (Go.Lib.compact xs))];generalize hys:Go.Lib.compact xs=ys;have hle0:ys.length<=xs.length:=by rw[<-hys];exact aW7 xs
 intro w G m vs hS hm hr;obtain⟨v0,l0,hv0,⟨h1,loc,hloc,h2⟩,h3⟩:=hr;subst h3;have hlk:∀(b:Blk) h bl,eK [some b] [] h=some bl->h=.B 0/\bl=b:=by
  intro b h bl e;cases h with
  |B i=>cases i with
   |zero=>cases e;exact⟨rfl,rfl⟩
   |succ i=>cases e
  |O i=>cases e
 have hnd:loc≠.dead:=by rintro rfl;cases hS.dead _ hloc
 have hfn:aYj prog 92:=⟨_,func92,rfl,rfl⟩;obtain rfl:vs=#[v0]:=by apply my;simpa using hv0
 let m' (l:Go.Eng.Loc):HM:=fun h=>if h=.O 0 then some l else if h=.B 0 then some .dead else m h
 have hmO:∀l:Go.Eng.Loc,m' l (.O 0)=some l:=fun l=>if_pos rfl;have hmB:∀l:Go.Eng.Loc,m' l (.B 0)=some .dead:=fun l=>by show(if(Hd.B 0)=.O 0 then _ else _)=_;rw[if_neg (by simp),if_pos rfl]
 have hmo:∀l h,h≠.O 0->h≠.B 0->m' l h=m h:=fun l h a b=>by show(if h=.O 0 then _ else _)=_;rw[if_neg a,if_neg b]
 have hother:∀h l,h≠.B 0->m h=some l->l=.dead:=fun h l hb e=>by
  cases l with
  |dead=>rfl
  |none=>obtain⟨_,_,e2⟩:=hS.nil _ e;exact absurd (hlk _ _ _ e2).1 hb
  |at_ b sz=>obtain⟨_,e2,_⟩:=hS.blk _ _ _ e;exact absurd (hlk _ _ _ e2).1 hb
  |atx b sz fp=>obtain⟨_,e2,_⟩:=hS.blkx _ _ _ _ e;exact absurd (hlk _ _ _ e2).1 hb
 have hsame:∀l i,SameB (m (.B i)) (m' l (.B i)):=fun l i=>by
  by_cases e:i=0
  ·subst e;exact .inr (.inl ⟨by rw[hloc];exact fun e=>(by cases e),hmB l⟩)
  ·rw[hmo l _ (by simp) (by simpa using e)];exact SameB.refl _
 have hlast:∀l i,eK [none] [Blk.row true 1 (oN ys)] (.O i)=none->m' l (.O i)=none:=fun l i e=>by
  cases i with
  |zero=>cases e
  |succ i=>rw[hmo l _ (by simp) (by simp)];exact hm _
 have hdead:∀l:Go.Eng.Loc,l≠.dead->∀h,m' l h=some .dead->eK [none] [Blk.row true 1 (oN ys)] h=none:=fun l hl h e=>by
  cases h with
  |B i=>cases i<;>rfl
  |O i=>cases i with
   |zero=>rw[hmO]at e;cases e;exact absurd rfl hl
   |succ i=>rfl
 refine .inl ⟨hfn,?_⟩;rcases h2 hnd with⟨a,rfl,h0⟩|⟨b,sz,cap,rfl,rfl,hc1,hc2⟩
 ·obtain rfl:xs=[]:=de.1 h0;have hy:ys=[]:=de.1 (by simpa using hle0);subst hy;refine(Any.slices_Compact_int_empty lays20 a 0 w).mono ?_;rintro e w' ⟨rfl,rfl⟩;refine⟨_,rfl,G,m' .none,⟨?_,?_,?_,hS.gh,hdead _ (by simp),hS.gl,?_⟩,⟨rfl,_,hmO _,fun _=>.inl ⟨a,rfl,rfl⟩⟩,Fr.refl _ _ _ _,hsame _,?_,hlast _⟩
  ·intro h b sz e;by_cases e1:h=.O 0
   ·subst e1;rw[hmO]at e;cases e
   by_cases e2:h=.B 0
   ·subst e2;rw[hmB]at e;cases e
   rw[hmo _ _ e1 e2]at e;cases hother _ _ e2 e
  ·intro h e;by_cases e1:h=.O 0
   ·subst e1;exact⟨true,1,rfl⟩
   by_cases e2:h=.B 0
   ·subst e2;rw[hmB]at e;cases e
   rw[hmo _ _ e1 e2]at e;cases hother _ _ e2 e
  ·intro h h' l l' b e e' hb hb';have key:∀h l,m' .none h=some l->b∈l.blks->False:=fun h l e hb=>by
    by_cases e1:h=.O 0
    ·subst e1;rw[hmO]at e;cases e;cases hb
    by_cases e2:h=.B 0
    ·subst e2;rw[hmB]at e;cases e;cases hb
    rw[hmo _ _ e1 e2]at e;rw[hother _ _ e2 e]at hb;cases hb
   exact(key _ _ e hb).elim
  ·intro h b sz fp e;by_cases e1:h=.O 0
   ·subst e1;rw[hmO]at e;cases e
   by_cases e2:h=.B 0
   ·subst e2;rw[hmB]at e;cases e
   rw[hmo _ _ e1 e2]at e;cases hother _ _ e2 e
  ·intro h l b e hb;by_cases e1:h=.O 0
   ·subst e1;rw[hmO]at e;cases e;cases hb
   by_cases e2:h=.B 0
   ·subst e2;rw[hmB]at e;cases e;cases hb
   rw[hmo _ _ e1 e2]at e;rw[hother _ _ e2 e]at hb;cases hb
 ·obtain⟨bl,hbl,hrep⟩:=hS.blk _ _ _ hloc;obtain⟨_,rfl⟩:=hlk _ _ _ hbl;obtain⟨cur,T,hb,hsz,hk,hrows,hG⟩:=hrep;have ht:=aCd hrows;have hle:xs.length<=cur.size:=by have:=congrArg List.length ht;simp at this;omega
  have hb0:b<w.heap.size:=(aq.1 hb).1;refine(Any.slices_Compact_int lays20 b (0*1) cap xs w (by rw[mq];exact holds_of_blockI hb ht) hlen hc1).mono ?_;rintro e w' ⟨rfl,n,rfl⟩;rw[hys];obtain⟨zs,hzs⟩:∃zs,zs=ys++ω (xs.length-ys.length) 0:=⟨_,rfl⟩;rw[<-hzs];have hzl:zs.length=xs.length:=by rw[hzs];simp;omega
  have hgr0:Sort.grow (putRow (Value.int .i64) (Sort.ahead w n) b 0 zs.toArray) #[]=putRow (Value.int .i64) (Sort.ahead w n) b 0 zs.toArray:=by
   have:∀W:World,Sort.grow W #[]=W:=fun W=>by cases W;simp[Sort.grow]
   exact this _
  have hb':=heap_sortedI (n:=n) (os:=#[]) zs.toArray hb;have hgr:=grownBy_sortedI (w:=w) (g:=b) (n:=n) (os:=#[]) zs.toArray;rw[hgr0]at hb' hgr;rw[mq];have hdr:TD w (putRow (Value.int .i64) (Sort.ahead w n) b 0 zs.toArray):=⟨rfl,iv _ _⟩;revert hb' hgr hdr;generalize putRow (Value.int .i64) (Sort.ahead w n) b 0 zs.toArray=w';intro hb' hgr hdr;obtain⟨g1,g2,g3,g4,g5⟩:=hgr;refine⟨_,rfl,G,m' (.at_ b sz),⟨?_,?_,?_,?_,hdead _ (by simp),hS.gl,?_⟩,⟨rfl,_,hmO _,fun _=>.inr ⟨b,sz,cap,rfl,by simp,by omega,hc2⟩⟩,⟨g1,hdr,g3,g4,fun b' hb1 ho=>?_,fun _ _ _ _=>rfl,Gh.le.refl G⟩,hsame _,?_,hlast _⟩
  ·intro h b2 sz2 e;by_cases e1:h=.O 0
   ·subst e1;rw[hmO]at e;cases e;refine⟨_,rfl,_,T,hb',by rw[putCells,Array.size_mapIdx];exact hsz,by simp[oN]at hk|-;omega,zC fun j hj=>?_,hG⟩;have:=congrArg (fun l=>l[j]?) (take_putCellsI cur zs (by omega));simp only[c6 (show j<zs.length by omega),bc]at this;rw[bg,this,hzs,bq,List.getElem?_append_left (by simpa using hj)];simp[hj]
   by_cases e2:h=.B 0
   ·subst e2;rw[hmB]at e;cases e
   rw[hmo _ _ e1 e2]at e;cases hother _ _ e2 e
  ·intro h e;by_cases e1:h=.O 0
   ·subst e1;rw[hmO]at e;cases e
   by_cases e2:h=.B 0
   ·subst e2;rw[hmB]at e;cases e
   rw[hmo _ _ e1 e2]at e;cases hother _ _ e2 e
  ·intro h h' l l' b2 e e' hb2 hb2';have key:∀h l,m' (.at_ b sz) h=some l->b2∈l.blks->h=.O 0:=fun h l e hb=>by
    by_cases e1:h=.O 0
    ·exact e1
    by_cases e2:h=.B 0
    ·subst e2;rw[hmB]at e;cases e;cases hb
    rw[hmo _ _ e1 e2]at e;rw[hother _ _ e2 e]at hb;cases hb
   rw[key _ _ e hb2,key _ _ e' hb2']
  ·intro b2 o v hg;have hne:b≠b2:=by rintro rfl;rw[hG o]at hg;cases hg
   have:=hS.gh _ _ _ hg;have hlt:b2<w.heap.size:=by
    simp only[World.cell?]at this;cases hx:w.heap[b2]?with
    |none=>rw[hx]at this;simp at this
    |some _=>exact(aq.1 hx).1
   have he:=g5 b2 hlt (fun e=>hne (Option.some.inj e).symm);simp only[World.cell?,he]at this|-;exact this
  ·intro h b2 sz2 fp e;by_cases e1:h=.O 0
   ·subst e1;rw[hmO]at e;cases e
   by_cases e2:h=.B 0
   ·subst e2;rw[hmB]at e;cases e
   rw[hmo _ _ e1 e2]at e;cases hother _ _ e2 e
  ·exact g5 b' hb1 fun e=>ho (by cases e;exact Own.at_ hloc)
  ·intro h l b2 e hb2;by_cases e1:h=.O 0
   ·subst e1;rw[hmO]at e;cases e;exact .inr ⟨.B 0,_,hloc,hb2⟩
   by_cases e2:h=.B 0
   ·subst e2;rw[hmB]at e;cases e;cases hb2
   rw[hmo _ _ e1 e2]at e;rw[hother _ _ e2 e]at hb2;cases hb2
end Go.Proofs.Tryz
set_option maxRecDepth 8000
set_option synthInstance.maxSize 100000000
set_option synthInstance.maxHeartbeats 4000000
namespace Go.Proofs.Tryz
open Go.Eng Go.RowKit
def aAp(N:Nat)(a:TG)(b:TA):Option (TG×TA):=some (a,b)
abbrev zS(N:Nat):Sig:=⟨40,⟨[(0,dd (.sl tB)),(1,dd (.sl tA))],[],[]⟩,[⟨[(0,.clo 90 [.ptr (.O 0) 0,.ptr (.O 1) 0])],[],[some (.box [dd (.sl tB)]),some (.box [dd (.sl tA)])]⟩],aAp N⟩
theorem aKd(N:Nat):aD Tryz.prog (zS N):=xf N tn [] [] 0 Tryz.func40 rfl (by kernel_rfl) fun a=>by kernel_rfl
def aAa(N:Nat)(b:TB)(a:Int):Option (Bool×Int):=some ((b.2.2.2.2.2==a),a)
abbrev aKp(N:Nat):Sig:=⟨88,⟨[(0,dd tB),(1,.ptr (.B 0) 0)],[some (.box [dd tC])],[]⟩,[⟨[(0,dd .b)],[some (.box [dd tC])],[]⟩],aAa N⟩
theorem aMn(N:Nat):aD Tryz.prog (aKp N):=xf N tn [] [] 1 Tryz.func88 rfl (by kernel_rfl) fun a=>by kernel_rfl
def rZ(N:Nat)(rec3:TG->Int->Int->Int->TG->Option TT)(e:TG)(f d h:Int)(b:TG):Option TT:=if? (decide (d<f)) (bd? (aU e d fun a=>bd? (aAa N (a.1,(a.2.1,(a.2.2.1,(a.2.2.2.1,(a.2.2.2.2.1,a.2.2.2.2.2))))) h) fun g=>if? g.1 (gl? b.length b (gd? (((b.length+[(a.1,(a.2.1,(a.2.2.1,(a.2.2.2.1,(a.2.2.2.2.1,a.2.2.2.2.2)))))].length)*48)<=140737488355328) (gl? ((b++[(a.1,(a.2.1,(a.2.2.1,(a.2.2.2.1,(a.2.2.2.2.1,a.2.2.2.2.2)))))]).length) (b++[(a.1,(a.2.1,(a.2.2.1,(a.2.2.2.1,(a.2.2.2.2.1,a.2.2.2.2.2)))))]) (some (e,f,d,g.2,(b++[(a.1,(a.2.1,(a.2.2.1,(a.2.2.2.1,(a.2.2.2.2.1,a.2.2.2.2.2)))))])))))) (gl? b.length b (some (e,f,d,g.2,b)))) fun c=>ck .i64 (c.2.2.1+1) (gl? c.2.2.2.2.length c.2.2.2.2 (rec3 c.1 c.2.1 (c.2.2.1+1) c.2.2.2.1 c.2.2.2.2))) (gl? b.length b (some (h,b)))
def rG(N:Nat):Nat->TG->Int->Int->Int->TG->Option TT:=aL [(.sl tB),tC,tC,tC,(.sl tB)] (rZ N)
def kI(N:Nat)(a:TG)(b:Int):Option TT:=rG N N a (a.length:Int) 0 b ([]:TG)
abbrev uA(N:Nat):Sig:=⟨72,⟨[(0,dd (.sl tB)),(1,.clo 88 [.ptr (.B 0) 0])],[some (.box [dd tC])],[]⟩,[⟨[(0,.slw (.O 0) tB 0)],[some (.box [dd tC])],[some (.row true tB [])]⟩],kI N⟩
theorem uD(N:Nat):aD Tryz.prog (uA N):=xf N (tc (aMn N) tn) [16,5000088,20] [⟨7,true,⟨[(1,.clo 88 [.ptr (.B 0) 0]),(5,.slw (.O 0) tB 0),(8,dd (.sl tB)),(9,dd tC),(10,dd tC)],[some (.box [dd tC])],[some (.row true tB [])]⟩⟩,⟨4,false,⟨[(1,.clo 88 [.ptr (.B 0) 0]),(5,.slw (.O 0) tB 0),(8,dd (.sl tB)),(9,dd tC),(10,dd tC)],[some (.box [dd tC])],[some (.row true tB [])]⟩⟩] 1 Tryz.func72 rfl (by kernel_rfl) fun a=>by kernel_rfl
def aAv(N:Nat)(b:TH)(a:Int):Option (Bool×Int):=some ((b.2.2.2.1==a),a)
abbrev aKo(N:Nat):Sig:=⟨89,⟨[(0,dd tA),(1,.ptr (.B 0) 0)],[some (.box [dd tC])],[]⟩,[⟨[(0,dd .b)],[some (.box [dd tC])],[]⟩],aAv N⟩
theorem aMh(N:Nat):aD Tryz.prog (aKo N):=xf N tn [] [] 1 Tryz.func89 rfl (by kernel_rfl) fun a=>by kernel_rfl
def rM(N:Nat)(rec3:TA->Int->Int->Int->TA->Option TS)(e:TA)(f d h:Int)(b:TA):Option TS:=if? (decide (d<f)) (bd? (aU e d fun a=>bd? (aAv N (a.1,(a.2.1,(a.2.2.1,(a.2.2.2.1,(a.2.2.2.2.1,(a.2.2.2.2.2.1,(a.2.2.2.2.2.2.1,a.2.2.2.2.2.2.2))))))) h) fun g=>if? g.1 (gl? b.length b (gd? (((b.length+[(a.1,(a.2.1,(a.2.2.1,(a.2.2.2.1,(a.2.2.2.2.1,(a.2.2.2.2.2.1,(a.2.2.2.2.2.2.1,a.2.2.2.2.2.2.2)))))))].length)*80)<=140737488355328) (gl? ((b++[(a.1,(a.2.1,(a.2.2.1,(a.2.2.2.1,(a.2.2.2.2.1,(a.2.2.2.2.2.1,(a.2.2.2.2.2.2.1,a.2.2.2.2.2.2.2)))))))]).length) (b++[(a.1,(a.2.1,(a.2.2.1,(a.2.2.2.1,(a.2.2.2.2.1,(a.2.2.2.2.2.1,(a.2.2.2.2.2.2.1,a.2.2.2.2.2.2.2)))))))]) (some (e,f,d,g.2,(b++[(a.1,(a.2.1,(a.2.2.1,(a.2.2.2.1,(a.2.2.2.2.1,(a.2.2.2.2.2.1,(a.2.2.2.2.2.2.1,a.2.2.2.2.2.2.2)))))))])))))) (gl? b.length b (some (e,f,d,g.2,b)))) fun c=>ck .i64 (c.2.2.1+1) (gl? c.2.2.2.2.length c.2.2.2.2 (rec3 c.1 c.2.1 (c.2.2.1+1) c.2.2.2.1 c.2.2.2.2))) (gl? b.length b (some (h,b)))
def rS(N:Nat):Nat->TA->Int->Int->Int->TA->Option TS:=aL [(.sl tA),tC,tC,tC,(.sl tA)] (rM N)
def kH(N:Nat)(a:TA)(b:Int):Option TS:=rS N N a (a.length:Int) 0 b ([]:TA)
abbrev uE(N:Nat):Sig:=⟨75,⟨[(0,dd (.sl tA)),(1,.clo 89 [.ptr (.B 0) 0])],[some (.box [dd tC])],[]⟩,[⟨[(0,.slw (.O 0) tA 0)],[some (.box [dd tC])],[some (.row true tA [])]⟩],kH N⟩
theorem uF(N:Nat):aD Tryz.prog (uE N):=xf N (tc (aMh N) tn) [16,5000089,20] [⟨7,true,⟨[(1,.clo 89 [.ptr (.B 0) 0]),(5,.slw (.O 0) tA 0),(8,dd (.sl tA)),(9,dd tC),(10,dd tC)],[some (.box [dd tC])],[some (.row true tA [])]⟩⟩,⟨4,false,⟨[(1,.clo 89 [.ptr (.B 0) 0]),(5,.slw (.O 0) tA 0),(8,dd (.sl tA)),(9,dd tC),(10,dd tC)],[some (.box [dd tC])],[some (.row true tA [])]⟩⟩] 1 Tryz.func75 rfl (by kernel_rfl) fun a=>by kernel_rfl
def xJ(N:Nat)(d:TG)(e:TA)(c:Int):Option TF:=bd? (kI N d c) fun a=>gd? (c=a.1) (bd? (kH N e a.1) fun b=>gd? (a.1=b.1) (gl? a.2.length a.2 (gl? b.2.length b.2 (some (c,(a.2,b.2))))))
abbrev aEq(N:Nat):Sig:=⟨39,⟨[(0,dd (.sl tB)),(1,dd (.sl tA)),(2,dd tC)],[],[]⟩,[⟨[(0,.agg [dd tC,.slw (.O 0) tB 0,.slw (.O 1) tA 0])],[],[some (.row true tB []),some (.row true tA [])]⟩],xJ N⟩
theorem aEf(N:Nat):aD Tryz.prog (aEq N):=xf N (tc (uD N) (tc (uF N) tn)) [5000075,7,5000072] [] 0 Tryz.func39 rfl (by kernel_rfl) fun a=>by kernel_rfl
def aEa(N:Nat)(i:Int->Int->Int->TC->TG->TA->TN->TN->Option TW)(f c j:Int)(d:TC)(g:TG)(h:TA)(e b:TN):Option TW:=if? (decide (c<f)) (gd? (0<=c) (gd? (c<(d.length:Int)) (gn? d c.toNat fun k=>bd? (xJ N g h k) fun a=>gl? a.2.1.length a.2.1 (gl? a.2.2.length a.2.2 (gl? b.length b (gd? (((b.length+[(a.1,(a.2.1,a.2.2))].length)*56)<=140737488355328) (ck .i64 (c+1) (gl? d.length d (gl? e.length e (gl? ((b++[(a.1,(a.2.1,a.2.2))]).length) (b++[(a.1,(a.2.1,a.2.2))]) (i f (c+1) j d g h e (b++[(a.1,(a.2.1,a.2.2))])))))))))))) (gl? b.length b (some (0,b)))
def aFy(N:Nat):Nat->Int->Int->Int->TC->TG->TA->TN->TN->Option TW:=aL [tC,tC,tC,(.sl tC),(.sl tB),(.sl tA),(.sl tD),(.sl tD)] (aEa N)
def aEu(N:Nat)(m:TA->Int->Int->Int->TC->TG->TA->TN->TN->Option TW)(g:TA)(h d i:Int)(a:TC)(j:TG)(k:TA)(b c:TN):Option TW:=if? (decide (d<h)) (aU g d fun e=>gl? a.length a (gd? (((a.length+[e.2.2.2.1].length)*8)<=140737488355328) (ck .i64 (d+1) (gl? ((a++[e.2.2.2.1]).length) (a++[e.2.2.2.1]) (gl? b.length b (gl? c.length c (m g h (d+1) i (a++[e.2.2.2.1]) j k b c))))))) (gl? a.length a (bd? (pA N a) fun l=>gl? a.length l (bd? (lB N l) fun f=>gl? f.length f (gl? b.length b (gl? c.length c (aFy N N (f.length:Int) 0 i f j k b c))))))
def aEw(N:Nat):Nat->TA->Int->Int->Int->TC->TG->TA->TN->TN->Option TW:=aL [(.sl tA),tC,tC,tC,(.sl tC),(.sl tB),(.sl tA),(.sl tD),(.sl tD)] (aEu N)
def aFz(N:Nat)(l:TG->Int->Int->Int->TA->TC->TG->TA->TN->TN->Option TW)(g:TG)(h d i:Int)(f:TA)(a:TC)(j:TG)(k:TA)(b c:TN):Option TW:=if? (decide (d<h)) (aU g d fun e=>gl? a.length a (gd? (((a.length+[e.2.2.2.2.2].length)*8)<=140737488355328) (ck .i64 (d+1) (gl? ((a++[e.2.2.2.2.2]).length) (a++[e.2.2.2.2.2]) (gl? b.length b (gl? c.length c (l g h (d+1) i f (a++[e.2.2.2.2.2]) j k b c))))))) (gl? a.length a (gl? b.length b (gl? c.length c (aEw N N f (f.length:Int) 0 i a j k b c))))
def aFs(N:Nat):Nat->TG->Int->Int->Int->TA->TC->TG->TA->TN->TN->Option TW:=aL [(.sl tB),tC,tC,tC,(.sl tA),(.sl tC),(.sl tB),(.sl tA),(.sl tD),(.sl tD)] (aFz N)
def yO(N:Nat)(a:TG)(b:TA):Option TW:=bd? (eN N a b) fun d=>if? (d !=0) (some (d,([]:TN))) (bd? (aAp N a b) fun c=>aFs N N c.1 (c.1.length:Int) 0 0 c.2 ([]:TC) a b ([]:TN) ([]:TN))
abbrev aIy(N:Nat):Sig:=⟨12,⟨[(0,dd (.sl tB)),(1,dd (.sl tA))],[],[]⟩,[⟨[(0,.slw (.O 0) tD 0),(1,dd tC)],[],[some (.row true tD [])]⟩],yO N⟩
theorem aIp(N:Nat):aD Tryz.prog (aIy N):=bMa N (T:=[yL N,zS N,oZ N,kZ N,aEq N]) ⟨qQ N,aKd N,yZ N,vH N,aEf N,trivial⟩ [5000092,5000091,25] [⟨900017,false,⟨[(0,.yld),(38,.slw (.O 0) tC 0),(39,dd tC),(40,dd tC),(49,.gst .go),(52,.ptr (.O 1) 0),(53,.ptr (.O 2) 0),(54,.slw (.O 3) tD 0),(55,dd tC),(57,.ptr (.O 4) 0)],[],[some (.row true tC []),some (.box [dd (.sl tB)]),some (.box [dd (.sl tA)]),some (.row true tD []),some (.box [.slw (.O 5) tD 0]),some (.row true tD [])]⟩⟩,⟨900010,false,⟨[(0,.yld),(4,.slw (.O 0) tC 0),(23,dd (.sl tA)),(24,dd tC),(25,dd tC),(49,.gst .go),(52,.ptr (.O 1) 0),(53,.ptr (.O 2) 0),(54,.slw (.O 3) tD 0),(55,dd tC),(57,.ptr (.O 4) 0)],[],[some (.row true tC []),some (.box [dd (.sl tB)]),some (.box [dd (.sl tA)]),some (.row true tD []),some (.box [.slw (.O 5) tD 0]),some (.row true tD [])]⟩⟩,⟨900003,false,⟨[(0,.yld),(2,.ptr (.O 0) 0),(4,.slw (.O 1) tC 0),(11,dd (.sl tB)),(12,dd tC),(13,dd tC),(49,.gst .go),(52,.ptr (.O 2) 0),(53,.ptr (.O 3) 0),(54,.slw (.O 4) tD 0),(55,dd tC),(57,.ptr (.O 5) 0)],[],[some (.box [dd (.sl tA)]),some (.row true tC []),some (.box [dd (.sl tB)]),some (.box [dd (.sl tA)]),some (.row true tD []),some (.box [.slw (.O 6) tD 0]),some (.row true tD [])]⟩⟩] 0 [(8,90,[46,1000000,21,33,5000092,5000091])] Tryz.func12 rfl rfl (by kernel_rfl) (by rw[Tryz.ntmps12];decide) (fun a=>by kernel_rfl)
set_option maxRecDepth 8000
set_option synthInstance.maxSize 100000000
set_option synthInstance.maxHeartbeats 4000000
def lL(rec2:Int->Int->TC->Int->Int->Option (TB0⊕TL))(d e:Int)(f:TC)(g c:Int):Option (TB0⊕TL):=if? (decide (c<g)) (aU f c fun h=>bd? (bd? (if? (c==9) (some (d,e,c,h,f,g,c,decide (h>1))) (some (d,e,c,h,f,g,c,false))) fun a=>if? a.2.2.2.2.2.2.2 (some (a.1,a.2.1,a.2.2.1,a.2.2.2.1,a.2.2.2.2.1,a.2.2.2.2.2.1,a.2.2.2.2.2.2.1,true)) (if? (decide (a.2.2.1>0)) (some (a.1,a.2.1,a.2.2.1,a.2.2.2.1,a.2.2.2.2.1,a.2.2.2.2.2.1,a.2.2.2.2.2.2.1,(a.2.2.2.1==0))) (some (a.1,a.2.1,a.2.2.1,a.2.2.2.1,a.2.2.2.2.1,a.2.2.2.2.2.1,a.2.2.2.2.2.2.1,false)))) fun b=>if? b.2.2.2.2.2.2.2 (vV (some (0,(0,11)))) (ck .i64 (7*b.2.2.1) (gd? (0<=(7*b.2.2.1)) (gd? ((7*b.2.2.1)<=(((gm .u64):Nat):Int)) (if? (decide (b.2.2.2.1<128)) (ck .i64 (b.2.2.1+1) (some (.inr ((bits .or .u64 b.1 (δ .u64 ((δ .u64 (bits .and .u8 b.2.2.2.1 127))*(2^(7*b.2.2.1).toNat)))),(b.2.2.1+1))))) (ck .i64 (b.2.2.2.2.2.2.1+1) (rec2 (bits .or .u64 b.1 (δ .u64 ((δ .u64 (bits .and .u8 b.2.2.2.1 127))*(2^(7*b.2.2.1).toNat)))) b.2.1 b.2.2.2.2.1 b.2.2.2.2.2.1 (b.2.2.2.2.2.2.1+1)))))))) (some (.inr (d,e)))
def hH:Nat->Int->Int->TC->Int->Int->Option (TB0⊕TL):=aL [tK,tC,tH,tC,tC] (lL)
def fJ(N:Nat)(b:TC):Option TB0:=jn? (hH N 0 0 b (b.length:Int) 0) fun a=>if? (a.2==0) (some (0,(0,10))) (ck .i64 (-(δ .i64 (bits .and .u64 a.1 1))) (some ((bits .xor .i64 (δ .i64 (a.1/(2^1))) (-(δ .i64 (bits .and .u64 a.1 1)))),(a.2,0))))
abbrev aN8(N:Nat):Sig:=⟨46,⟨[(0,dd tH)],[],[]⟩,[⟨[(0,dd tC),(1,dd tC),(2,dd tC)],[],[]⟩],fJ N⟩
theorem pY(N:Nat):aD Tryz.prog (aN8 N):=xf N tn [] [⟨4,false,⟨[(5,dd tK),(6,dd tC)],[],[]⟩⟩,⟨12,true,⟨[(5,dd tK),(6,dd tC),(7,dd tC),(8,dd (.i .u8)),(9,dd tH),(10,dd tC),(11,dd tC),(24,dd .b)],[],[]⟩⟩,⟨13,true,⟨[(5,dd tK),(6,dd tC),(7,dd tC),(8,dd (.i .u8)),(9,dd tH),(10,dd tC),(11,dd tC),(24,dd .b)],[],[]⟩⟩,⟨6,false,⟨[(5,dd tK),(6,dd tC),(9,dd tH),(10,dd tC),(11,dd tC)],[],[]⟩⟩] 0 Tryz.func46 rfl (by kernel_rfl) fun a=>by kernel_rfl
def iA(N:Nat)(b:TC)(c:Int):Option TB0:=bd? (fJ N b) fun a=>if? (a.2.2!=0) (some (0,(0,a.2.2))) (if? (decide (a.1<0)) (some (0,(0,11))) (ck .i64 ((b.length:Int)-a.2.1) (gd? (c≠0) (ck .i64 (lz ((b.length:Int)-a.2.1) c) (if? (decide (a.1>(lz ((b.length:Int)-a.2.1) c))) (some (0,(0,10))) (some (a.1,(a.2.1,0))))))))
abbrev aN9(N:Nat):Sig:=⟨136,⟨[(0,dd tH),(1,dd tC)],[],[]⟩,[⟨[(0,dd tC),(1,dd tC),(2,dd tC)],[],[]⟩],iA N⟩
theorem vQ(N:Nat):aD Tryz.prog (aN9 N):=xf N (tc (pY N) tn) [] [] 0 Tryz.func136 rfl (by kernel_rfl) fun a=>by kernel_rfl
def kD(N:Nat)(g:TC->Int->Int->Int->TC->Option TY)(d:TC)(c f e:Int)(a:TC):Option TY:=if? (decide (e<f)) (gd? (0<=c) (gd? (c.toNat<=d.length) (gd? (d.length<=d.length) (bd? (fJ N (cm (d.length-c.toNat) (df c.toNat d))) fun b=>if? (b.2.2!=0) (some (0,(b.2.2,([]:TC)))) (gl? a.length a (gd? (((a.length+[b.1].length)*8)<=140737488355328) (ck .i64 (c+b.2.1) (ck .i64 (e+1) (gl? ((a++[b.1]).length) (a++[b.1]) (g d (c+b.2.1) f (e+1) (a++[b.1]))))))))))) (gl? a.length a (some (c,(0,a))))
def kF(N:Nat):Nat->TC->Int->Int->Int->TC->Option TY:=aL [tH,tC,tC,tC,(.sl tC)] (kD N)
def sS(N:Nat)(b:TC)(c:Int):Option TY:=bd? (iA N b c) fun a=>if? (a.2.2!=0) (some (0,(a.2.2,([]:TC)))) (kF N N b a.2.1 a.1 0 ([]:TC))
abbrev aNe(N:Nat):Sig:=⟨162,⟨[(0,dd tH),(1,dd tC),(2,.clo 46 [])],[],[]⟩,[⟨[(0,.slw (.O 0) tC 0),(1,dd tC),(2,dd tC)],[],[some (.row true tC [])]⟩],sS N⟩
theorem aMy(N:Nat):aD Tryz.prog (aNe N):=xf N (tc (vQ N) (tc (pY N) tn)) [44] [⟨8,false,⟨[(0,dd tH),(2,.clo 46 []),(10,dd tC),(12,.slw (.O 0) tC 0),(26,dd tC),(27,dd tC)],[],[some (.row true tC [])]⟩⟩] 0 Tryz.func162 rfl (by kernel_rfl) fun a=>by kernel_rfl
def oM(N:Nat)(b:TC):Option TY:=bd? (sS N b 1) fun a=>gl? a.2.2.length a.2.2 (some (a.1,(a.2.1,a.2.2)))
abbrev aM4(N:Nat):Sig:=⟨137,⟨[(0,dd tH)],[],[]⟩,[⟨[(0,.slw (.O 0) tC 0),(1,dd tC),(2,dd tC)],[],[some (.row true tC [])]⟩],oM N⟩
theorem aMj(N:Nat):aD Tryz.prog (aM4 N):=xf N (tc (aMy N) tn) [] [] 0 Tryz.func137 rfl (by kernel_rfl) fun a=>by kernel_rfl
def cC(N:Nat)(a:Bool):Option (Unit⊕Unit):=if? (!a) (some (.inr ())) (some (.inl ()))
abbrev aH0(N:Nat):Sig:=⟨99,⟨[(0,dd .b)],[],[]⟩,[⟨[],[],[]⟩,⟨[(1000000,.c (.iface 215 (.agg #[])))],[],[]⟩],cC N⟩
theorem zM(N:Nat):aD Tryz.prog (aH0 N):=xf N tn [] [] 0 Tryz.func99 rfl (by kernel_rfl) fun a=>by kernel_rfl
def lH(N:Nat)(b:TC):Option (Str×TL):=bd? (iA N b 1) fun a=>if? (a.2.2!=0) (some (([]:Str),(0,a.2.2))) (ck .i64 (a.2.1+a.1) (gd? (0<=(a.2.1+a.1)) (gd? (0<=a.2.1) (gd? (a.2.1.toNat<=(a.2.1+a.1).toNat) (gd? ((a.2.1+a.1).toNat<=b.length) (ck .i64 (a.2.1+a.1) (some ((aO (cm ((a.2.1+a.1).toNat-a.2.1.toNat) (df a.2.1.toNat b))),((a.2.1+a.1),0)))))))))
abbrev aJc(N:Nat):Sig:=⟨96,⟨[(0,dd tH)],[],[]⟩,[⟨[(0,dd .s),(1,dd tC),(2,dd tC)],[],[]⟩],lH N⟩
theorem aIt(N:Nat):aD Tryz.prog (aJc N):=xf N (tc (vQ N) tn) [] [] 0 Tryz.func96 rfl (by kernel_rfl) fun a=>by kernel_rfl
def fU(N:Nat)(g:TC->Int->Int->Int->TK->Option TZ)(d:TC)(c f e:Int)(a:TK):Option TZ:=if? (decide (e<f)) (gd? (0<=c) (gd? (c.toNat<=d.length) (gd? (d.length<=d.length) (bd? (lH N (cm (d.length-c.toNat) (df c.toNat d))) fun b=>if? (b.2.2!=0) (some (0,(b.2.2,([]:TK)))) (gl? a.length a (gd? (((a.length+[b.1].length)*16)<=140737488355328) (ck .i64 (c+b.2.1) (ck .i64 (e+1) (gl? ((a++[b.1]).length) (a++[b.1]) (g d (c+b.2.1) f (e+1) (a++[b.1]))))))))))) (gl? a.length a (some (c,(0,a))))
def fT(N:Nat):Nat->TC->Int->Int->Int->TK->Option TZ:=aL [tH,tC,tC,tC,(.sl .s)] (fU N)
def oE(N:Nat)(b:TC)(c:Int):Option TZ:=bd? (iA N b c) fun a=>if? (a.2.2!=0) (some (0,(a.2.2,([]:TK)))) (fT N N b a.2.1 a.1 0 ([]:TK))
abbrev aFp(N:Nat):Sig:=⟨95,⟨[(0,dd tH),(1,dd tC),(2,.clo 96 [])],[],[]⟩,[⟨[(0,.slw (.O 0) .s 0),(1,dd tC),(2,dd tC)],[],[some (.row true .s [])]⟩],oE N⟩
theorem aDp(N:Nat):aD Tryz.prog (aFp N):=xf N (tc (vQ N) (tc (aIt N) tn)) [44] [⟨8,false,⟨[(0,dd tH),(2,.clo 96 []),(10,dd tC),(12,.slw (.O 0) .s 0),(26,dd tC),(27,dd tC)],[],[some (.row true .s [])]⟩⟩] 0 Tryz.func95 rfl (by kernel_rfl) fun a=>by kernel_rfl
def fA(N:Nat)(b:TC):Option TZ:=bd? (oE N b 1) fun a=>gl? a.2.2.length a.2.2 (some (a.1,(a.2.1,a.2.2)))
abbrev aE0(N:Nat):Sig:=⟨47,⟨[(0,dd tH)],[],[]⟩,[⟨[(0,.slw (.O 0) .s 0),(1,dd tC),(2,dd tC)],[],[some (.row true .s [])]⟩],fA N⟩
theorem uL(N:Nat):aD Tryz.prog (aE0 N):=xf N (tc (aDp N) tn) [] [] 0 Tryz.func47 rfl (by kernel_rfl) fun a=>by kernel_rfl
def qD(N:Nat)(e:Str)(g h:Int)(f:Bool):Option ((TC×TK)⊕Unit):=bd? (oM N (aE e)) fun b=>jn? (if? (b.2.1==0) (if? ((b.2.2.length:Int)==h) (gd? (0<(b.2.2.length:Int)) (gn? b.2.2 (0) fun i=>bd? (cC N (i==g)) fun j=>sm? j (fun p=>gl? b.2.2.length b.2.2 (some (.inr (e,f,b.1,b.2.2)))) (fun b9=>vV (some (.inr ()))))) (bd? (cC N false) fun k=>sm? k (fun q=>gl? b.2.2.length b.2.2 (some (.inr (e,f,b.1,b.2.2)))) (fun b12=>vV (some (.inr ()))))) (bd? (cC N false) fun l=>sm? l (fun r=>gl? b.2.2.length b.2.2 (some (.inr (e,f,b.1,b.2.2)))) (fun b15=>vV (some (.inr ()))))) fun a=>if? (!a.2.1) (bd? (cC N (a.2.2.1==(a.1.length:Int))) fun m=>sm? m (fun s=>gl? a.2.2.2.length a.2.2.2 (some (.inl (a.2.2.2,([]:TK))))) (fun b19=>some (.inr ()))) (gd? (0<=a.2.2.1) (gd? (a.2.2.1.toNat<=a.1.length) (gd? (a.1.length<=a.1.length) (bd? (fA N (aE (cm (a.1.length-a.2.2.1.toNat) (df a.2.2.1.toNat a.1)))) fun c=>jn? (if? (c.2.1==0) (ck .i64 (a.2.2.1+c.1) (bd? (cC N ((a.2.2.1+c.1)==(a.1.length:Int))) fun n=>sm? n (fun t=>gl? a.2.2.2.length a.2.2.2 (gl? c.2.2.length c.2.2 (some (.inr (a.2.2.2,c.2.2))))) (fun b23=>vV (some (.inr ()))))) (bd? (cC N false) fun o=>sm? o (fun u=>gl? a.2.2.2.length a.2.2.2 (gl? c.2.2.length c.2.2 (some (.inr (a.2.2.2,c.2.2))))) (fun b26=>vV (some (.inr ()))))) fun d=>gl? d.1.length d.1 (gl? d.2.length d.2 (some (.inl (d.1,d.2))))))))
abbrev zY(N:Nat):Sig:=⟨98,⟨[(0,dd .s),(1,dd tC),(2,dd tC),(3,dd .b)],[],[]⟩,[⟨[(0,dd (.sl tC)),(1,dd (.sl .s))],[],[]⟩,⟨[(1000000,.c (.iface 215 (.agg #[])))],[],[]⟩],qD N⟩
theorem aHv(N:Nat):aD Tryz.prog (zY N):=xf N (tc (aMj N) (tc (zM N) (tc (uL N) tn))) [4000099] [⟨8,false,⟨[(10,.slw (.O 0) tC 0),(13,.slw (.O 1) .s 0)],[],[some (.row true tC []),some (.row true .s [])]⟩⟩,⟨2,false,⟨[(0,dd .s),(3,dd .b),(10,.slw (.O 0) tC 0),(11,dd tC)],[],[some (.row true tC [])]⟩⟩] 0 Tryz.func98 rfl (by kernel_rfl) fun a=>by kernel_rfl
def iD(N:Nat)(b:Str):Option (TB×Int):=bd? (qD N b 1 7 false) fun c=>sm? c (fun a=>aU a.1 (1) fun d=>aU a.1 (2) fun e=>aU a.1 (3) fun f=>aU a.1 (4) fun g=>aU a.1 (5) fun h=>aU a.1 (6) fun i=>bd? (lK N 0) fun j=>some ((d,(e,(f,(g,(h,i))))),j)) (fun b4=>bd? (cF N 0) fun k=>some ((0,(0,(0,(0,(0,0))))),k))
abbrev aD2(N:Nat):Sig:=⟨48,⟨[(0,dd .s)],[],[]⟩,[⟨[(0,dd tB),(1,dd tC)],[],[]⟩],iD N⟩
theorem aDh(N:Nat):aD Tryz.prog (aD2 N):=bM8 N (T:=[zY N]) ⟨aHv N,trivial⟩ [4000098,3000012,3000013,3000015,3000016,3000018,3000019,3000021,3000022,3000024,3000025,3000027,3000028] [] (gr:=qS N) (gp:=qM N) (pv:=kX) (yF N) (yJ N) Tryz.func48 rfl rfl (by kernel_rfl) (by kernel_rfl) (by rw[Tryz.ntmps48];decide) (fun a=>by kernel_rfl)
def sG(N:Nat)(b:Str):Option (Int⊕Unit):=bd? (fJ N (aE b)) fun a=>jn? (if? (a.2.2==0) (bd? (cC N (a.2.1==(b.length:Int))) fun c=>sm? c (fun f=>some (.inr a.1)) (fun b5=>vV (some (.inr ())))) (bd? (cC N false) fun d=>sm? d (fun g=>some (.inr a.1)) (fun b8=>vV (some (.inr ()))))) fun e=>some (.inl e)
abbrev aJ9(N:Nat):Sig:=⟨100,⟨[(0,dd .s)],[],[]⟩,[⟨[(0,dd tC)],[],[]⟩,⟨[(1000000,.c (.iface 215 (.agg #[])))],[],[]⟩],sG N⟩
theorem aYn(N:Nat):aD Tryz.prog (aJ9 N):=xf N (tc (pY N) (tc (zM N) tn)) [4000099] [⟨2,false,⟨[(3,dd tC)],[],[]⟩⟩] 0 Tryz.func100 rfl (by kernel_rfl) fun a=>by kernel_rfl
def fQ(N:Nat)(r:TC->TK->Int->Int->Int->Int->Int->Int->Int->Int->TE->TE->Option TP)(d:TC)(m:TK)(e f:Int)(g h:Int)(i j:Int)(k l:Int)(c a:TE):Option TP:=if? (decide ((m.length:Int)>0)) (aU m (0) fun s=>aU m (1) fun t=>bd? (sG N s) fun u=>sm? u (fun q=>bd? (sG N t) fun v=>sm? v (fun n=>jn? (if? (n==0) (bd? (cC N true) fun w=>sm? w (fun ak=>gl? c.length c (gl? a.length a (some (.inr (d,m,q,n,e,f,g,h,i,j,k,l,c,a))))) (fun b31=>vV (bd? (cF N l) fun x=>gl? c.length c (some (e,(f,(g,(h,(i,(j,(k,(c,x)))))))))))) (bd? (cC N (n==1)) fun y=>sm? y (fun al=>gl? c.length c (gl? a.length a (some (.inr (d,m,q,n,e,f,g,h,i,j,k,l,c,a))))) (fun b35=>vV (bd? (cF N l) fun z=>gl? c.length c (some (e,(f,(g,(h,(i,(j,(k,(c,z))))))))))))) fun b=>aU b.2.1 (2) fun o=>aU b.2.1 (3) fun p=>gl? b.2.2.2.2.2.2.2.2.2.2.2.2.2.length b.2.2.2.2.2.2.2.2.2.2.2.2.2 (gd? (((b.2.2.2.2.2.2.2.2.2.2.2.2.2.length+[(b.2.2.1,((b.2.2.2.1==1),(o,p)))].length)*48)<=140737488355328) (gd? (4<=b.2.1.length) (gd? (b.2.1.length<=b.2.1.length) (gl? b.2.2.2.2.2.2.2.2.2.2.2.2.1.length b.2.2.2.2.2.2.2.2.2.2.2.2.1 (gl? ((b.2.2.2.2.2.2.2.2.2.2.2.2.2++[(b.2.2.1,((b.2.2.2.1==1),(o,p)))]).length) (b.2.2.2.2.2.2.2.2.2.2.2.2.2++[(b.2.2.1,((b.2.2.2.1==1),(o,p)))]) (r b.1 (cm (b.2.1.length-4) (df 4 b.2.1)) b.2.2.2.2.1 b.2.2.2.2.2.1 b.2.2.2.2.2.2.1 b.2.2.2.2.2.2.2.1 b.2.2.2.2.2.2.2.2.1 b.2.2.2.2.2.2.2.2.2.1 b.2.2.2.2.2.2.2.2.2.2.1 b.2.2.2.2.2.2.2.2.2.2.2.1 b.2.2.2.2.2.2.2.2.2.2.2.2.1 (b.2.2.2.2.2.2.2.2.2.2.2.2.2++[(b.2.2.1,((b.2.2.2.1==1),(o,p)))])))))))) (fun b28=>bd? (cF N l) fun aa=>gl? c.length c (some (e,(f,(g,(h,(i,(j,(k,(c,aa))))))))))) (fun b25=>bd? (cF N l) fun ab=>gl? c.length c (some (e,(f,(g,(h,(i,(j,(k,(c,ab))))))))))) (aU d (1) fun ac=>aU d (2) fun ad=>aU d (3) fun ae=>aU d (4) fun af=>aU d (5) fun ag=>aU d (6) fun ah=>aU d (7) fun ai=>gd? (a.length=a.length) (gd? (a.length=a.length) (gd? (a.length=a.length) (gd? (a.length=a.length) (gd? (a.length=a.length) (gd? (a.length=a.length) (gd? (a.length=a.length) (gd? (a.length=a.length) (gd? (a.length=a.length) (gd? (a.length=a.length) (gd? (a.length=a.length) (gd? (a.length=a.length) (gd? (a.length=a.length) (gd? (a.length=a.length) (gd? (a.length=a.length) (gd? (a.length=a.length) (gd? (a.length=a.length) (bd? (lK N 0) fun aj=>gl? a.length a (some (ac,(ad,(ae,(af,(ag,(ah,(ai,(a,aj)))))))))))))))))))))))))))
def cY(N:Nat):Nat->TC->TK->Int->Int->Int->Int->Int->Int->Int->Int->TE->TE->Option TP:=aL [(.sl tC),(.sl .s),tC,tC,tC,tC,tC,tC,tC,tC,(.sl tE),(.sl tE)] (fQ N)
def iK(N:Nat)(b:Str):Option TP:=bd? (qD N b 2 8 true) fun c=>sm? c (fun a=>bd? (cC N ((ei (a.2.length:Int) 4)==0)) fun d=>sm? d (fun g=>cY N N a.1 a.2 0 0 0 0 0 0 0 0 ([]:TE) ([]:TE)) (fun b7=>bd? (cF N 0) fun e=>some (0,(0,(0,(0,(0,(0,(0,(([]:TE),e)))))))))) (fun b4=>bd? (cF N 0) fun f=>some (0,(0,(0,(0,(0,(0,(0,(([]:TE),f)))))))))
abbrev aEn(N:Nat):Sig:=⟨49,⟨[(0,dd .s)],[],[]⟩,[⟨[(0,.agg [dd tC,dd tC,dd tC,dd tC,dd tC,dd tC,dd tC,dd (.sl tE)]),(1,dd tC)],[],[]⟩],iK N⟩
theorem aGe(N:Nat):aD Tryz.prog (aEn N):=bM8 N (T:=[zY N,aH0 N,aJ9 N]) ⟨aHv N,zM N,aYn N,trivial⟩ [3000023,3000024,3000027,3000028,4000100,4000099,4000098,3000056,3000057,3000059,3000060,3000062,3000063,3000065,3000066,3000068,3000069,3000071,3000072,3000074,3000075,76,51] [⟨8,false,⟨[(2,.ptr (.O 0) 0),(3,.ptr (.O 1) 0),(4,dd (.sl tC)),(5,dd (.sl .s)),(6,.ptr (.O 2) 0),(7,dd tC),(8,dd tC),(86,.ptr (.O 1) 0)],[],[some (.box [dd tC,dd tC,dd tC,dd tC,dd tC,dd tC,dd tC,.slw (.O 3) tE 0]),some (.box [dd tC]),some (.box [.slw (.O 4) tE 0]),some (.row true tE []),some (.row true tE [])]⟩⟩,⟨4,false,⟨[(2,.ptr (.O 0) 0),(3,.ptr (.O 1) 0),(4,dd (.sl tC)),(5,dd (.sl .s)),(6,.ptr (.O 2) 0),(86,.ptr (.O 1) 0)],[],[some (.box [dd tC,dd tC,dd tC,dd tC,dd tC,dd tC,dd tC,.slw (.O 3) tE 0]),some (.box [dd tC]),some (.box [.slw (.O 4) tE 0]),some (.row true tE []),some (.row true tE [])]⟩⟩] (gr:=qS N) (gp:=qM N) (pv:=kX) (yF N) (yJ N) Tryz.func49 rfl rfl (by kernel_rfl) (by kernel_rfl) (by rw[Tryz.ntmps49];decide) (fun a=>by kernel_rfl)
end Go.Proofs.Tryz
namespace Go.Proofs
open Go.Shelf
def Tryz.lays169_ren:Go.Shelf.Ren:=⟨fun|169=>45|n=>n,fun|70=>94|9=>9|0=>0|72=>96|37=>80|127=>172|3=>3|5=>5|n=>n,fun|n=>n⟩
end Go.Proofs
namespace Go.Proofs
open Go.Shelf Go.RowKit
theorem Tryz.bldX:Builder.Extra Tryz.prog Tryz.lays169_ren where
 sizeBuilder:=by kernel_rfl
 liesBuilder:=by kernel_rfl
 t5:=Tryz.underlying5
 a5:=Tryz.isAgg5
 z5:=Tryz.sizeOf5
 v5:=Tryz.zeroValue5
 infoByte:=by kernel_rfl
 cellsByte:=by kernel_rfl
 sizeByte:=by kernel_rfl
 neB5:=by decide
set_option maxHeartbeats 1000000 in
set_option maxRecDepth 100000 in
theorem Tryz.cc_used(b:Nat)(w:World)(h0:w.cell? ⟨b,0,none⟩=some (.pointer (some ⟨b,0,none⟩))):
  Calls Tryz.prog 93 #[.pointer (some ⟨b,0,none⟩)] w fun e w'=>e=.returned (.tuple #[])/\w'=w:=by
 obtain⟨j,hj,_⟩:=θ.1 Tryz.bldX.sizeBuilder
 go_enter Tryz.func93,Tryz.ntmps93
 go_wp2
 rw[Lib.run_neq_ptr_same w _ Tryz.underlying94 hj]
 go_wp2
 go_end0
 exact⟨rfl,rfl⟩
set_option maxHeartbeats 1000000 in
set_option maxRecDepth 100000 in
theorem Tryz.cc_fresh(b:Nat)(w:World)(h0:w.cell? ⟨b,0,none⟩=some (.pointer none))(hsh:w.shape? b=some (96,2))(hfz:w.frozen? ⟨b,0,none⟩=false):
  Calls Tryz.prog 93 #[.pointer (some ⟨b,0,none⟩)] w fun e w'=>e=.returned (.tuple #[])/\w'=w.setCell ⟨b,0,none⟩ (.pointer (some ⟨b,0,none⟩)):=by
 obtain⟨j,hj,hjs⟩:=θ.1 Tryz.bldX.sizeBuilder
 go_enter Tryz.func93,Tryz.ntmps93
 go_wp2
 rw[Lib.run_to_unsafe w ⟨b,0,none⟩ Tryz.underlying94 Tryz.underlying212 hj (by rw[hjs];decide) hsh (Nat.zero_lt_succ 1)];simp only[Result.andThen];rw[Oper.upon_value]
 go_wp2
 rw[run_callFunc_extern Tryz.func135 (by kernel_rfl) (by kernel_rfl) (by kernel_rfl) (e:=Extern.AbiNoEscape.same) (by kernel_rfl)];rw[Lib.run_noEscape];simp only[Result.andThen];rw[Oper.upon_value]
 go_wp2
 rw[Lib.run_from_unsafe w ⟨b,0,none⟩ Tryz.underlying212 Tryz.underlying94 hj hsh Tryz.bldX.liesBuilder];simp only[Result.andThen];rw[Oper.upon_value]
 go_wp2
 go_end0
 exact⟨rfl,rfl⟩
end Go.Proofs
namespace Go.Proofs
open Go.RowKit
variable{p:Program}
theorem aYa{at_:Addr}{u:TypeId}{a:Addr}{v:Value}{b:Bool}{w:World}{r:World×List Addr}(h:w.viewStore p at_ u a v b=.ok r):r.1.drawn=w.drawn:=by
 unfold World.viewStore at h;simp only[bind,Except.bind,pure,Except.pure]at h
 repeat' split at h
 all_goals first|(cases h;done)|(cases h;rfl)
theorem bCs{a:Addr}{v:Value}{b:Bool}{w w':World}{l:List Addr}(h:w.farStore p a v b=.ok (w',l)):w'.drawn=w.drawn:=by
 unfold World.farStore at h;split at h
 ·split at h
  ·rename_i r hr;cases h;exact aYa hr
  ·cases h
 ·cases h
theorem bCt{α:Type}:∀(q:Ask α) (w:World),w.drawn<=(w.ask q).2.drawn:=fun q=>by
 induction q with
 |done a=>intro w;exact τ _
 |ask what range k ih=>
  intro w;unfold World.ask;dsimp only;split
  ·exact ih _ _
  ·exact Nat.le_of_succ_le (ih _ {w with drawn:=w.drawn+1})
theorem bBi(w:World)(c:Sys):w.drawn<=(w.sys c).2.drawn:=by
 have h:=bCt (Kernel.perform c w.os) w;unfold World.sys;split
 ·exact τ _
 ·rename_i e;rw[e]at h;exact h
theorem aR0(w:World)(a:Addr)(n:Nat):(w.freeze a n).drawn=w.drawn:=by
 unfold World.freeze
 repeat' split
 all_goals rfl
theorem bBv{P:Program}{α:Type}:∀(s:Sem α) (w w':World) (a:α),s.run P w=.ok a w'->w.drawn<=w'.drawn:=fun s=>by
  induction s with
  |pure a=>intro w w' b h;cases h;exact τ _
  |halt h=>intro w w' b h;cases h
  | choose q k ih =>
    intro w w' b h;unfold Sem.run at h;split at h
    · exact ih _ _ _ _ h
    · exact Nat.le_of_succ_le (ih _ _ _ _ h)
  | load m a k ih =>
    intro w w' b h;unfold Sem.run at h;split at h
    · exact ih _ _ _ _ h
    · split at h
      · exact ih _ _ _ _ h
      · cases h
  | store m a v k ih =>
    intro w w' b h;cases v<;>unfold Sem.run at h<;>first
      |(cases h;done)
      | (split at h
         · split at h
           · cases h
           · have:=ih _ _ _ h;exact this
         · split at h
           · rename_i hf;have:=ih _ _ _ h;rw[bCs hf]at this;exact this
           · cases h)
  |new o k ih=>intro w w' b h;unfold Sem.run at h;have:=ih _ _ _ _ h;exact this
  |shape r k ih=>intro w w' b h;unfold Sem.run at h;exact ih _ _ _ _ h
  |freeze a n k ih=>intro w w' b h;unfold Sem.run at h;have:=ih _ _ _ h;rw[aR0]at this;exact this
  |frozen a k ih=>intro w w' b h;unfold Sem.run at h;exact ih _ _ _ _ h
  | getObj r k ih =>
    intro w w' b h;unfold Sem.run at h;split at h
    · cases h
    · exact ih _ _ _ _ h
    · cases h
  | setObj r o k ih =>
    intro w w' b h;unfold Sem.run at h;split at h
    · cases h
    · have:=ih _ _ _ h;exact this
    · cases h
  | sys c k ih =>
    intro w w' b h;unfold Sem.run at h;exact Nat.le_trans (bBi w c) (ih _ _ _ _ h)
  |program k ih=>intro w w' b h;unfold Sem.run at h;exact ih _ _ _ _ h
  |mark m k ih=>intro w w' b h;unfold Sem.run at h;exact ih _ _ _ h
end Go.Proofs
namespace Go.Proofs
open Go.Shelf Go.RowKit
structure Tryz.BAt (b:Nat) (p:Value) (n:Nat) (xs:List Value) (w:World) (v:Value):Prop where
 blk:w.heap[b]?=some (.cells #[p,v] 96 (0,0))
 own:w.ownsRow 0 5 1 v n xs
 ne:v.ownBlock≠some b
theorem Tryz.cc_any(b:Nat)(us:Bool)(w:World)(v:Value)(hbk:w.heap[b]?=some (.cells #[.pointer (if us=true then some ⟨b,0,none⟩else none),v] 96 (0,0))):
  Calls Tryz.prog 93 #[.pointer (some ⟨b,0,none⟩)] w fun e w'=>e=.returned (.tuple #[])/\w'.heap[b]?=some (.cells #[.pointer (some ⟨b,0,none⟩),v] 96 (0,0))/\w.grownBy w' (some b)/\w'.heap.size=w.heap.size/\w'.drawn=w.drawn:=by
 cases us with
 |true=>
  refine(Tryz.cc_used b w (by rw[Lib.cell_of_heap hbk];rfl)).mono ?_;rintro e w' ⟨rfl,rfl⟩;exact⟨rfl,hbk,⟨rfl,rfl,rfl,τ _,fun _ _ _=>rfl⟩,rfl,rfl⟩
 |false=>
  refine(Tryz.cc_fresh b w (by rw[Lib.cell_of_heap hbk];rfl) (by simp[World.shape?,hbk]) (Lib.frozen_of_heap hbk 0)).mono ?_;rintro e w' ⟨rfl,rfl⟩;refine⟨rfl,?_,⟨rfl,rfl,rfl,by simp[World.setCell],fun k _ hk=>Below.heap_setCell _ _ _ _ (fun e=>hk (by simp[e]))⟩,by simp[World.setCell],rfl⟩;simp[World.setCell,kr,hbk]
theorem Tryz.app_d{ops:Array Oper}{rest:List Oper}{o:Oper}{a:Act}{Q:Exit->Act->World->Prop}(w:World)(hgd:o.guard=none)(s x:Operand)
  (ho:o.op=.call {callee:=.builtin .append,args:=#[s,x],argTypes:=#[80,80]}) (v:Value) (n:Nat) (xs:List Value) (hs:a.eval s=v) (hown:w.ownsRow 0 5 1 v n xs)
  (ad:Addr) (m c:Nat) (news:List Value) (hx:a.eval x=.slice (some ad) m c) (hl:news.length=m*1) (hnews:∀j u,news[j]?=some u->w.cell? (ad.add j)=some u) (h1:∀u∈news,u.oneCell'=true)
  (h63:n+m<=maxLen) (hb:(n+m)*1<=140737488355328)
  (h:∀v' w',w'.ownsRow 0 5 1 v' (n+m) (xs++news)->w.grownBy w' v.ownBlock->(v'=.slice none 0 0↔v=.slice none 0 0/\m=0)->(v'.ownBlock=v.ownBlock\/v'.ownBlock=some w.heap.size)->w.drawn<=w'.drawn->wpList Tryz.prog ops Q rest (a.put o.dst v') w'):
  wpList Tryz.prog ops Q (o::rest) a w:=by obtain⟨i0,hi,hz0,hz1,hz2⟩:=info_parts Tryz.bldX.infoByte;refine wpList_plain hgd fun K hK=>?_;obtain⟨v',w',hr,h2,h3,h4,h5⟩:=run_append_own_at (P:=Tryz.prog) w 0 80 o.type 5 i0 _ 1 1 Tryz.underlying80 hi hz0 hz1 hz2 rfl (by decide) v n xs hown ad m c news hl hnews h1 h63 hb (fo _);unfold Oper.wp execOp;simp only[ho,resolve,invoke,builtin,Sem.run_bind,Sem.run_pure,Result.andThen_ok,List.map_toArray,cu,List.map_nil,hs,hx,hr];exact hK _ _ (h v' w' h2 h3 h4 h5 (bBv _ _ _ _ hr))
set_option maxHeartbeats 2000000 in
set_option maxRecDepth 100000 in
theorem Tryz.write_w(b:Nat)(us:Bool)(n:Nat)(xs:List Value)(v:Value)(w:World)(h:Tryz.BAt b (.pointer (if us=true then some ⟨b,0,none⟩else none)) n xs w v)
  (ad:Addr) (m c:Nat) (news:List Value) (hl:news.length=m) (hnews:∀j u,news[j]?=some u->w.cell? (ad.add j)=some u) (h1:∀u∈news,u.oneCell'=true) (had:ad.block≠b) (hlen:n+m<=140737488355328):
  Calls Tryz.prog 41 #[.pointer (some ⟨b,0,none⟩),.slice (some ad) m c] w fun e w'=>e=.returned (.tuple #[.int .i64 m,.nilIface])/\
   ∃v',Tryz.BAt b (.pointer (some ⟨b,0,none⟩)) (n+m) (xs++news) w' v'/\w'.os=w.os/\w'.tape=w.tape/\w'.output=w.output/\w.heap.size<=w'.heap.size/\(∀k,k<w.heap.size->k≠b->some k≠v.ownBlock->w'.heap[k]?=w.heap[k]?)/\(v'=.slice none 0 0↔v=.slice none 0 0/\m=0)/\w.drawn<=w'.drawn/\(v'.ownBlock=v.ownBlock\/v'.ownBlock=some w.heap.size):=by
 obtain⟨i0,hi,hz0,hz1,hz2⟩:=info_parts Tryz.bldX.infoByte
 go_enter Tryz.func41,Tryz.ntmps41
 go_wp2_with (go_at_call 93;refine(Tryz.cc_any b us _ v h.blk).mono ?_)
 rintro e w1 ⟨rfl,hbk,hg1,hs1,hd1⟩;have hown:w1.ownsRow 0 5 1 v n xs:=by
  refine⟨h.own.1,?_⟩;rcases h.own.2 with hn|⟨g,cap,cur,q1,q2,q3,q4⟩
  ·exact .inl hn
  ·refine .inr ⟨g,cap,cur,q1,q2,?_,q4⟩;have hgb:g≠b:=fun e=>h.ne (by rw[q1];simp[Value.ownBlock,e]);rw[hg1.block g (aq.1 q3).1 (by simp[hgb])];exact q3
 have hadb:∀j,(ad.add j).block=ad.block:=fun j=>by unfold Addr.add;split<;>rfl
 have hnews1:∀j u,news[j]?=some u->w1.cell? (ad.add j)=some u:=fun j u hj=>by
  have q:=hnews j u hj;have hlt:ad.block<w.heap.size:=by
   rcases Nat.lt_or_ge ad.block w.heap.size with h'|h'
   ·exact h'
   ·have hz:w.heap[(ad.add j).block]?=none:=ki (by rw[hadb];exact h');simp[World.cell?,hz]at q
  have e:w1.heap[(ad.add j).block]?=w.heap[(ad.add j).block]?:=hg1.block _ (by rw[hadb];exact hlt) (by rw[hadb];exact fun e=>had (Option.some.inj e));have:w1.cell? (ad.add j)=w.cell? (ad.add j):=by simp only[World.cell?,e]
  rw[this];exact q
 have c0:w1.cell? ⟨b,0,none⟩=some (.pointer (some ⟨b,0,none⟩)):=by rw[Lib.cell_of_heap hbk];rfl
 have c1:w1.cell? ⟨b,1,none⟩=some v:=by rw[Lib.cell_of_heap hbk];rfl
 go_wp2_with (at_builtin;go_loud (refine Tryz.app_d _ rfl _ _ rfl _ _ _ rfl hown ad m c news rfl (by rw[hl,ct]) hnews1 h1 ?c3 ?c4 ?_))
 case c3=>unfold maxLen;omega
 case c4=>omega
 intro v' w2 hown' hgrow hnil hat hdr;have hlt:b<w1.heap.size:=(aq.1 hbk).1;have hb2:w2.heap[b]?=some (.cells #[.pointer (some ⟨b,0,none⟩),v] 96 (0,0)):=by rw[hgrow.block b hlt (fun e=>h.ne e.symm)];exact hbk
 have d0:w2.cell? ⟨b,0,none⟩=some (.pointer (some ⟨b,0,none⟩)):=by rw[Lib.cell_of_heap hb2];rfl
 have d1:w2.cell? ⟨b,1,none⟩=some v:=by rw[Lib.cell_of_heap hb2];rfl
 have f1:w2.frozen? ⟨b,1,none⟩=false:=Lib.frozen_of_heap hb2 1;obtain⟨ao,n',cap,rfl⟩:∃ao n' cap,v'=.slice ao n' cap:=by
  rcases hown'.2 with⟨hv,_⟩|⟨g,cap,cur,hv,_⟩
  ·exact⟨_,_,_,hv⟩
  ·exact⟨_,_,_,hv⟩
 go_wp2
 go_ret2
 have hxs:(xs++news).length=n+m:=by rw[ι,hl,h.own.1,ct]
 have hput:=Lib.BuilderAt.put (T:=96) (e:=5) (fo b) hb2 (bs':=xs++news) (by rw[hxs];exact hown') (by decide);obtain⟨_,v2,p1,p2,p3⟩:=hput;have ev:v2=.slice ao n' cap:=by simp[World.setCell,kr,hb2]at p1;exact p1.symm
 subst ev;refine⟨rfl,_,⟨p1,by rw[hxs]at p2;exact p2,p3⟩,?_,?_,?_,?_,?_,hnil,?_,?_⟩
 ·exact hgrow.os.trans hg1.os
 ·exact hgrow.tape.trans hg1.tape
 ·exact hgrow.output.trans hg1.output
 ·have:=hgrow.size;simp[World.setCell];omega
 ·intro k hk hkb hkv;rw[Below.heap_setCell _ _ _ _ (fun e=>hkb (by simp[e]))];rw[hgrow.block k (by omega) hkv,hg1.block k hk (by simp[hkb])]
 ·exact hd1▸hdr
 ·exact hat
set_option maxHeartbeats 1000000 in
set_option maxRecDepth 100000 in
theorem Tryz.string_w(b g cap:Nat)(p:Value)(cur:Array Value)(l:List UInt8)(w:World)(hbk:w.heap[b]?=some (.cells #[p,.slice (some ⟨g,0,none⟩) l.length cap] 96 (0,0)))
  (hown:w.ownsRow 0 5 1 (.slice (some ⟨g,0,none⟩) l.length cap) l.length (Lib.byteCells l)) (h0:l≠[]):
  Calls Tryz.prog 45 #[.pointer (some ⟨b,0,none⟩)] w fun e w'=>e=.returned (.string ⟨l.toArray⟩)/\w'=w.drew.freeze ⟨g,0,none⟩ l.length:=by
 have hl0:l.length≠0:=by simpa using h0
 obtain⟨cur,hbg,hg,hnc,hcm,hcs,htake⟩:∃cur,0<=g/\w.heap[g]?=some (.cells cur 5 (0,0))/\l.length<=cap/\cap<=maxLen/\cur.size=cap*1/\cur.toList.take (l.length*1)=Lib.byteCells l:=by
  rcases hown.2 with⟨_,hz⟩|⟨g',cap',cur,hv,r⟩
  ·exact absurd hz hl0
  ·cases hv;exact⟨cur,r⟩
 have c1:w.drew.cell? ⟨b,1,none⟩=some (.slice (some ⟨g,0,none⟩) l.length cap):=by have:w.drew.heap[b]?=some (.cells #[p,.slice (some ⟨g,0,none⟩) l.length cap] 96 (0,0)):=hbk;rw[Lib.cell_of_heap this];rfl
 have hSD:(Builtin.unsafeSliceData_ #[80] 172 #[.slice (some ⟨g,0,none⟩) l.length cap]).run Tryz.prog w.drew=.ok (.pointer (some ⟨g,0,none⟩)) w.drew:=
  Lib.run_unsafeSliceData_row _ _ _ _ _ _ (by omega)
 have hUS:(Builtin.unsafeString_ #[172,3] 9 #[.pointer (some ⟨g,0,none⟩),.int .i64 l.length]).run Tryz.prog w.drew=.ok (.string ⟨l.toArray⟩) (w.drew.freeze ⟨g,0,none⟩ l.length):=by refine Lib.run_unsafeString_row w.drew 172 3 9 5 Tryz.underlying172 Tryz.bldX.cellsByte g cur.size (by have hg':w.drew.heap[g]?=some (.cells cur 5 (0,0)):=hg;simp[World.shape?,hg']) l h0 (by omega) (by unfold maxLen at hcm;omega) ?_;intro j x hx;have:=hown.cells (g:=g) rfl j (.int .u8 x.toNat) (by simp[Lib.byteCells,hx]);exact this
 have mixed:Tryz.prog.follows .mixedOrders=true:=by kernel_rfl
 go_enter Tryz.func45,Tryz.ntmps45
 go_wp2
 go_region_o
 all_goals(go_wp2;go_ret;exact⟨rfl,rfl⟩)
end Go.Proofs
set_option maxRecDepth 8000
namespace Go.Proofs.Tryz
open Go.Eng Go.RowKit
variable{G:Gh}{f:Nat->Option Value}{x:Option Blk}
theorem aE1{G:Gh}{f:Nat->Option Value}:∀{xs:List Int} {o:Nat},DV.rows G f 1 o (xs.map (Ty.i .u8).ds)->∀j u,(xs.map (Value.int .u8))[j]?=some u->f (o+j)=some u
 |[],o,_,j,u,h=>by simp at h
 |x::xs,o,hr,j,u,h=>by
  have hr:DV.rows G f 1 o ([.I .u8 x]::xs.map (Ty.i .u8).ds):=hr;unfold DV.rows at hr;obtain⟨_,hc,hr⟩:=hr;unfold DV.cells at hc;obtain⟨⟨v,hv,hd⟩,_⟩:=hc;unfold DV.Rep at hd;cases j with
  |zero=>
   have e:Value.int .u8 x=u:=by simpa using h
   rw[Nat.add_zero,hv,<-e,hd]
  |succ j=>
   have:=aE1 hr j u (by simpa using h);rw[show o+(j+1)=o+1+j by omega];exact this
theorem aZ4{G:Gh}{f:Nat->Option Value}:∀{xs:List Int} {o:Nat},(∀j u,(xs.map (Value.int .u8))[j]?=some u->f (o+j)=some u)->DV.rows G f 1 o (xs.map (Ty.i .u8).ds)
 |[],o,_=>by simp[DV.rows]
 |x::xs,o,h=>by
  show DV.rows G f 1 o ([.I .u8 x]::xs.map (Ty.i .u8).ds);unfold DV.rows;refine⟨rfl,?_,aZ4 fun j u hj=>?_⟩
  ·unfold DV.cells;refine⟨⟨.int .u8 x,by have:=h 0 (.int .u8 x) rfl;simpa using this,by simp[DV.Rep]⟩,by simp[DV.cells]⟩
  ·have:=h (j+1) u (by simpa using hj);rw[show o+1+j=o+(j+1) by omega];exact this
theorem aNb{h:Hd}(hn:h≠.B 0):eK [x] [] h=none:=by
 cases h with
 |B i=>
  cases i with
  |zero=>exact absurd rfl hn
  |succ i=>rfl
 |O i=>rfl
theorem zN{m:HM}{w:World}(hS:Sim G m (eK [x] []) w){h:Hd}(hn:h≠.B 0){l:Eng.Loc}(hl:m h=some l):l=.dead:=by
 cases l with
 |dead=>rfl
 |none=>obtain⟨mt,k,e⟩:=hS.nil _ hl;rw[aNb hn]at e;cases e
 |at_ b sz=>obtain⟨bl,e,_⟩:=hS.blk _ _ _ hl;rw[aNb hn]at e;cases e
 |atx b sz fp=>obtain⟨bl,e,_⟩:=hS.blkx _ _ _ _ hl;rw[aNb hn]at e;cases e
theorem aUf{m:HM}{lk:bA}{w:World}(hS:Sim G m lk w){b o:Nat}{v:Value}(h:G b o=some v):b<w.heap.size:=by
 have hc:=hS.gh _ _ _ h;rcases Nat.lt_or_ge b w.heap.size with h'|h'
 ·exact h'
 ·have hz:w.heap[b]?=none:=ki h';simp[World.cell?,hz]at hc
def G_W(N:Nat)(p1:(List Int))(p2:Bool)(p3:(List Int)):Option (Int×(Bool×(List Int))):=gd? (p1≠[]) (gd? (p3.length+p1.length<=140737488355328) (some ((p1.length:Int),true,p3++p1)))
abbrev S_W(N:Nat):Sig:=⟨41,⟨[(0,.mref (.B 0)),(1,dd (.sl (.i .u8)))],[some (.sb (96,5) false [])],[]⟩,[⟨[(0,dd (.i .i64)),(1,.c .nilIface)],[some (.sb (96,5) false [])],[]⟩],G_W N⟩
theorem s_W(N:Nat):aD Tryz.prog (S_W N):=by
 intro _ v r h nbs hn;obtain⟨p,us,xs,un⟩:=v;have h:G_W N p us xs=some r:=h;have hnb:nbs=[]:=by
  cases nbs with
  |nil=>rfl
  |cons _ _=>cases hn
 subst hnb;unfold G_W at h;obtain⟨hp,h⟩:=aX h;obtain⟨hb,h⟩:=aX h;cases h;intro w G m vs hS hO hA;have hA:AV.RepL G m [.mref (.B 0),.D (.L (p.map (Ty.i .u8).ds))] vs.toList:=hA;have hS:Sim G m (eK [some (.sb (96,5) us (xs.map (Ty.i .u8).ds))] []) w:=hS;show CallDoes Tryz.prog 41 vs w fun v w'=>rB w G m (eK [some (.sb (96,5) true ((xs++p).map (Ty.i .u8).ds))] []) (.tup [.D (.I .i64 p.length),.D (.C .nilIface)]) v w';unfold AV.RepL at hA;obtain⟨v0,l1,e0,r0,hA⟩:=hA;unfold AV.RepL at hA;obtain⟨v1,l2,e1,r1,hA⟩:=hA;unfold AV.RepL at hA;subst hA;subst e1;have hvs:vs=#[v0,v1]:=my e0;subst hvs;unfold AV.Rep at r0 r1;obtain⟨_,loc,hloc,hlp⟩:=r0;have hnd:loc≠.dead:=fun e=>by subst e;have:=hS.dead _ hloc;cases this
 obtain⟨b,sz,fp,rfl,rfl⟩:=hlp hnd;obtain⟨bl,hbl,hx⟩:=hS.blkx _ _ _ _ hloc;cases hbl;obtain⟨hdup,rfl,v,hheap,hsb,hG⟩:=hx;unfold DV.Rep at r1;obtain⟨a1,cap,rfl,hcap,_,hne⟩:=r1;have hpl:(p.map (Ty.i .u8).ds)≠[]:=fun e=>hp (jd.1 e);obtain⟨pb,po,k,rfl,hrows⟩:=hne hpl;have hk:k=1:=by
  cases p with
  |nil=>exact absurd rfl hp
  |cons x p=>
   have hrows:DV.rows G (G pb) k po ([.I .u8 x]::p.map (Ty.i .u8).ds):=hrows;unfold DV.rows at hrows;exact hrows.1.symm
 subst hk;have hpb:pb≠b:=fun e=>by
  subst e;cases p with
  |nil=>exact absurd rfl hp
  |cons x p=>
   have:=aE1 hrows 0 (.int .u8 x) rfl;rw[hG]at this;cases this
 have hcell:∀j u,(p.map (Value.int .u8))[j]?=some u->w.cell? ((⟨pb,po,none⟩:Addr).add j)=some u:=fun j u hj=>by
  have h1:=hS.gh _ _ _ (aE1 hrows j u hj);have e:(⟨pb,po,none⟩:Addr).add j=⟨pb,po+j,none⟩:=by
   unfold Addr.add;split
   ·rename_i h0;subst h0;rfl
   ·rfl
  rw[e];exact h1
 have hB:Tryz.BAt b (.pointer (if us=true then some ⟨b,0,none⟩else none)) xs.length (xs.map (Value.int .u8)) w v:=by
  have hle:(xs.map (Ty.i .u8).ds).length=xs.length:=κ _;rcases hsb with⟨rfl,hx0,rfl⟩|⟨g,c2,rfl,rfl,q3,q4,q5,vs,q6⟩
  ·have hxs:xs=[]:=jd.1 hx0;subst hxs;exact⟨hheap,⟨rfl,.inl ⟨rfl,rfl⟩⟩,fun e=>by cases e⟩
  ·unfold BlkRep at q5;obtain⟨vs',T',h1,h2,h3,h4,h5⟩:=q5;rw[q6]at h1;cases h1;rw[hle]at*;refine⟨hheap,⟨by rw[κ,ct],.inr ⟨g,c2,vs,rfl,fo _,q6,q3,q4,by rw[h2,ct],?_⟩⟩,fun e=>?_⟩
   ·refine jc fun j=>?_;rw[ct];by_cases hj:j<xs.length
    ·have hm:(xs.map (Value.int .u8))[j]?=some (.int .u8 xs[j]):=by rw[ba,ν hj];rfl
     have:=aE1 h4 j _ hm;rw[c6 hj,hm];simpa using this
    ·rw[bw (by rw[bn];omega),bw (by rw[κ];omega)]
   ·have e:g=b:=Option.some.inj e;subst e;simp at hdup
 have hlp:(p.map (Ty.i .u8).ds).length=p.length:=κ _;rw[hlp];refine .inl ⟨⟨Tryz.f41,Tryz.func41,rfl,rfl⟩,(Tryz.write_w b us xs.length _ v w hB ⟨pb,po,none⟩ p.length cap (p.map (Value.int .u8)) (κ _) hcell (fun u hu=>by
  obtain⟨n,_,rfl⟩:=List.mem_map.1 hu;rfl) hpb hb).mono ?_⟩
 have hfp:∀c∈fp,some c=v.ownBlock/\∀o,G c o=none:=by
  intro c hc;rcases hsb with⟨_,_,rfl⟩|⟨g,c2,rfl,rfl,q3,q4,q5,_⟩
  ·cases hc
  ·obtain rfl:=bj.1 hc;unfold BlkRep at q5;obtain⟨_,_,_,_,_,_,h5⟩:=q5;exact⟨rfl,h5⟩
 have hvb:∀c,v.ownBlock=some c->c∈fp:=by
  intro c hc;rcases hsb with⟨rfl,_,_⟩|⟨g,c2,rfl,rfl,_⟩
  ·cases hc
  ·cases hc;exact bj.2 rfl
 rintro e w' ⟨rfl,v',hB',os,tape,out,size,frame,hnil,hdr,hat⟩;have hm0:p.length≠0:=by simpa using hp
 obtain⟨hlen,hor⟩:=hB'.own;rcases hor with⟨rfl,hz⟩|⟨g,cap',cur,rfl,_,hg,hnc,hcm,hcs,htk⟩
 ·omega
 have hgb:g≠b:=fun e=>hB'.ne (by rw[e];rfl);have hgG:∀o,G g o=none:=by
  intro o;rcases hat with e|e
  ·exact(hfp g (hvb g e.symm)).2 o
  ·cases hq:G g o with
   |none=>rfl
   |some q=>
    have:=aUf hS hq;have e:g=w.heap.size:=Option.some.inj e;omega
 have hbo:Own m b:=⟨.B 0,_,hloc,cr⟩;refine⟨_,rfl,G,fun h=>if h=.B 0 then some (.atx b 2 [g])else m h,⟨?_,?_,?_,?_,?_,hS.gl,?_⟩,?_,⟨os,⟨tape,hdr⟩,out,size,?_,fun _ _ _ _=>rfl,Gh.le.refl G⟩,?_,?_,?_⟩
 ·intro h b' sz' hm;by_cases hn:h=.B 0
  ·simp only[hn,if_true]at hm;cases hm
  ·simp only[if_neg hn]at hm;have:=zN hS hn hm;cases this
 ·intro h hm;by_cases hn:h=.B 0
  ·simp only[hn,if_true]at hm;cases hm
  ·simp only[if_neg hn]at hm;have:=zN hS hn hm;cases this
 ·intro h h' l l' b' h1 h2 h3 h4;have aux:∀{h:Hd} {l:Eng.Loc},(if h=Hd.B 0 then some (Eng.Loc.atx b 2 [g])else m h)=some l->b'∈l.blks->h=.B 0:=fun{h l} q1 q2=>by
   by_cases hn:h=.B 0
   ·exact hn
   ·rw[if_neg hn]at q1;have:=zN hS hn q1;subst this;cases q2
  rw[aux h1 h3,aux h2 h4]
 ·intro b' o u hG';have hlt:=aUf hS hG';have hbb:b'≠b:=fun e=>by rw[e,hG]at hG';cases hG'
  have hvv:some b'≠v.ownBlock:=fun e=>by rw[(hfp b' (hvb b' e.symm)).2]at hG';cases hG'
  have h1:=hS.gh _ _ _ hG';have e:w'.heap[b']?=w.heap[b']?:=frame b' hlt hbb hvv;have:w'.cell? ⟨b',o,none⟩=w.cell? ⟨b',o,none⟩:=by simp only[World.cell?,e]
  rw[this];exact h1
 ·intro h hm;by_cases hn:h=.B 0
  ·simp only[hn,if_true]at hm;cases hm
  ·exact aNb hn
 ·intro h b' sz' fp' hm;by_cases hn:h=.B 0
  ·simp only[hn,if_true]at hm;cases hm;subst hn;refine⟨_,rfl,?_⟩;refine⟨by simp[hgb.symm],rfl,_,hB'.blk,.inr ⟨g,cap',rfl,?_,?_,hcm,⟨cur,5,hg,?_,?_,?_,hgG⟩,cur,hg⟩,hG⟩
   ·rw[κ,ι]
   ·rw[κ,ι];exact hnc
   ·rw[hcs,ct]
   ·rw[κ,ι,ct];exact hnc
   ·refine aZ4 fun j u hj=>?_;have e:(xs++p).map (Value.int .u8)=cur.toList.take ((xs.length+p.length)*1):=by rw[htk,bq]
    rw[e]at hj;rw[bg];rw[List.getElem?_take]at hj;split at hj
    ·simpa using hj
    ·cases hj
  ·simp only[if_neg hn]at hm;have:=zN hS hn hm;cases this
 ·unfold AV.Rep;refine⟨_,rfl,?_⟩;unfold AV.RepL;refine⟨_,_,rfl,by simp[AV.Rep,DV.Rep],?_⟩;unfold AV.RepL;exact⟨_,_,rfl,by simp[AV.Rep,DV.Rep],by simp[AV.RepL]⟩
 ·intro k hk ho;refine frame k hk (fun e=>ho (e▸hbo)) fun e=>ho ?_;exact⟨.B 0,_,hloc,cp _ (hvb k e.symm)⟩
 ·intro i;by_cases hn:i=0
  ·subst hn;exact .inr (.inr ⟨b,2,fp,[g],hloc,by simp⟩)
  ·exact .inl (by simp[hn])
 ·intro h l b' hm hb';by_cases hn:h=.B 0
  ·simp only[hn,if_true]at hm;cases hm;rcases bo.1 hb' with rfl|hb'
   ·exact .inr hbo
   ·obtain rfl:=bj.1 hb';rcases hat with e|e
    ·exact .inr ⟨.B 0,_,hloc,cp _ (hvb _ e.symm)⟩
    ·have e:b'=w.heap.size:=Option.some.inj e;exact .inl (by omega)
  ·simp only[if_neg hn]at hm;exact .inr ⟨h,l,hm,hb'⟩
 ·intro i _;exact hO i
set_option maxRecDepth 8000
def bN(N:Nat)(p1:(List Int))(p2:Bool)(p3:(List Int)):Option (Int×(Bool×(List Int))):=gd? (p1≠[]) (gd? (p3.length+p1.length<=140737488355328) (some ((p1.length:Int),true,p3++p1)))
abbrev wJ(N:Nat):Sig:=⟨41,⟨[(0,.mref (.B 0)),(1,dd (.sl (.i .u8)))],[some (.sb (96,5) false [])],[]⟩,[⟨[(0,dd (.i .i64)),(1,.c .nilIface)],[some (.sb (96,5) false [])],[]⟩],bN N⟩
theorem wS(N:Nat):aD Tryz.prog (wJ N):=s_W N
def bP(N:Nat)(p1:Bool)(p2:(List Int)):Option Str:=gd? (p2≠[]) (gd? (∀n∈p2,0<=n/\n<256) (some (aO p2)))
abbrev vF(N:Nat):Sig:=⟨45,⟨[(0,.mref (.B 0))],[some (.sb (96,5) false [])],[]⟩,[⟨[(0,dd .s)],[none],[]⟩],bP N⟩
theorem aH3:∀{xs:List Int},(∀n∈xs,0<=n/\n<256)->Lib.byteCells (aO xs)=xs.map (Value.int .u8)
 |[],_=>rfl
 |x::xs,h=>by obtain⟨h1,h2⟩:=h x cr;have ih:=aH3 (xs:=xs) fun n hn=>h n (cp _ hn);unfold Lib.byteCells aO at*;rw[cu,cu,ih,cu];congr 2;rw[UInt8.toNat_ofNat'];omega
theorem vO(N:Nat):aD Tryz.prog (vF N):=by
 intro _ v r h nbs hn;obtain⟨us,xs,un⟩:=v;have h:bP N us xs=some r:=h;have hnb:nbs=[]:=by
  cases nbs with
  |nil=>rfl
  |cons _ _=>cases hn
 subst hnb;unfold bP at h;obtain⟨hp,h⟩:=aX h;obtain⟨hb,h⟩:=aX h;cases h;intro w G m vs hS hO hA;have hA:AV.RepL G m [.mref (.B 0)] vs.toList:=hA;have hS:Sim G m (eK [some (.sb (96,5) us (xs.map (Ty.i .u8).ds))] []) w:=hS;show CallDoes Tryz.prog 45 vs w fun v w'=>rB w G m (eK [none] []) (.D (.S (aO xs))) v w';unfold AV.RepL at hA;obtain⟨v0,l1,e0,r0,hA⟩:=hA;unfold AV.RepL at hA;subst hA;have hvs:vs=#[v0]:=my e0;subst hvs;unfold AV.Rep at r0;obtain⟨_,loc,hloc,hlp⟩:=r0;have hnd:loc≠.dead:=fun e=>by subst e;have:=hS.dead _ hloc;cases this
 obtain⟨b,sz,fp,rfl,rfl⟩:=hlp hnd;obtain⟨bl,hbl,hx⟩:=hS.blkx _ _ _ _ hloc;cases hbl;obtain⟨hdup,rfl,v,hheap,hsb,hG⟩:=hx;rcases hsb with⟨_,hx0,_⟩|⟨g,c2,rfl,rfl,q3,q4,q5,vs,q6⟩
 ·exact absurd (jd.1 hx0) hp
 unfold BlkRep at q5;obtain⟨vs',T',h1,h2,h3,h4,hgG⟩:=q5;rw[q6]at h1;cases h1;have hlx:(xs.map (Ty.i .u8).ds).length=(aO xs).length:=by unfold aO;rw[κ,κ]
 have hlx':(aO xs).length=xs.length:=by unfold aO;rw[κ]
 rw[hlx]at q3 hheap h3;have hown:w.ownsRow 0 5 1 (.slice (some ⟨g,0,none⟩) (aO xs).length c2) (aO xs).length (Lib.byteCells (aO xs)):=by
  rw[aH3 hb];refine⟨by rw[κ,ct,hlx'],.inr ⟨g,c2,vs,rfl,fo _,q6,q3,q4,by rw[h2,ct],?_⟩⟩;refine jc fun j=>?_;rw[ct,hlx'];by_cases hj:j<xs.length
  ·have hm:(xs.map (Value.int .u8))[j]?=some (.int .u8 xs[j]):=by rw[ba,ν hj];rfl
   have:=aE1 h4 j _ hm;rw[c6 hj,hm];simpa using this
  ·rw[bw (by rw[bn];omega),bw (by rw[κ];omega)]
 have h0:aO xs≠[]:=fun e=>hp (by have:=congrArg List.length e;rw[hlx']at this;exact List.eq_nil_of_length_eq_zero this);refine .inl ⟨⟨Tryz.f45,Tryz.func45,rfl,rfl⟩,(Tryz.string_w b g c2 _ vs (aO xs) w hheap hown h0).mono ?_⟩;rintro e w' ⟨rfl,rfl⟩;have hfz:∀k,k≠g->(w.drew.freeze ⟨g,0,none⟩ (aO xs).length).heap[k]?=w.heap[k]?:=fun k hk=>by
  unfold World.freeze World.drew;split
  ·rfl
  ·show(w.heap.modify g _)[k]?=_;rw[kr,if_neg (Ne.symm hk)]
 have hfs:(w.drew.freeze ⟨g,0,none⟩ (aO xs).length).heap.size=w.heap.size:=by
  unfold World.freeze World.drew;split
  ·rfl
  ·exact Array.size_modify
 have hrest:∀w0:World,(w0.freeze ⟨g,0,none⟩ (aO xs).length).os=w0.os/\(w0.freeze ⟨g,0,none⟩ (aO xs).length).tape=w0.tape/\(w0.freeze ⟨g,0,none⟩ (aO xs).length).drawn=w0.drawn/\(w0.freeze ⟨g,0,none⟩ (aO xs).length).output=w0.output:=fun w0=>by unfold World.freeze;split<;>exact⟨rfl,rfl,rfl,rfl⟩
 obtain⟨r1,r2,r3,r4⟩:=hrest w.drew;have hOg:Own m g:=⟨.B 0,_,hloc,cp _ cr⟩;have hm':∀{h:Hd} {l:Eng.Loc},(if h=Hd.B 0 then some Eng.Loc.dead else m h)=some l->l=.dead:=fun{h l} q=>by
  by_cases hn:h=.B 0
  ·rw[if_pos hn]at q;cases q;rfl
  ·rw[if_neg hn]at q;exact zN hS hn q
 refine⟨_,rfl,G,fun h=>if h=.B 0 then some .dead else m h,⟨?_,?_,?_,?_,?_,hS.gl,?_⟩,?_,⟨r1,⟨r2,?_⟩,r4,?_,?_,fun _ _ _ _=>rfl,Gh.le.refl G⟩,?_,?_,?_⟩
 ·intro h b' sz' hm;cases hm' hm
 ·intro h hm;cases hm' hm
 ·intro h h' l l' b' h1 h2 h3 h4;rw[hm' h1]at h3;cases h3
 ·intro b' o u hG';have hbb:b'≠g:=fun e=>by rw[e,hgG]at hG';cases hG'
  have h1:=hS.gh _ _ _ hG';have e:=hfz b' hbb;have:(w.drew.freeze ⟨g,0,none⟩ (aO xs).length).cell? ⟨b',o,none⟩=w.cell? ⟨b',o,none⟩:=by simp only[World.cell?,e]
  rw[this];exact h1
 ·intro h hm;cases h with
  |B i=>
   cases i with
   |zero=>rfl
   |succ i=>rfl
  |O i=>rfl
 ·intro h b' sz' fp' hm;cases hm' hm
 ·simp[AV.Rep,DV.Rep]
 ·rw[r3];exact Nat.le_succ _
 ·rw[hfs];exact τ _
 ·intro k hk ho;exact hfz k fun e=>ho (e▸hOg)
 ·intro i;by_cases hn:i=0
  ·subst hn;exact .inr (.inl ⟨(by rw[hloc];intro e;cases e),by simp⟩)
  ·exact .inl (by simp[hn])
 ·intro h l b' hm hb';rw[hm' hm]at hb';cases hb'
 ·intro i _;exact hO i
set_option synthInstance.maxSize 100000000
set_option synthInstance.maxHeartbeats 4000000
def aN(N:Nat)(a:TF):Option (Str×Int):=bd? (aT N (a.1,(a.2.1,a.2.2))) fun e=>if? (e !=0) (some (([]:Str),e)) (bd? (eI N a.1) fun b=>gl? b.length b (bd? (bN N b false ([]:TC)) fun f=>bd? (eP N (a.1,(a.2.1,a.2.2))) fun c=>gl? c.length c (bd? (jM N c) fun d=>gl? d.length d (bd? (bN N d f.2.1 f.2.2) fun g=>bd? (bP N g.2.1 g.2.2) fun h=>some (h,0)))))
abbrev aGu(N:Nat):Sig:=⟨13,⟨[(0,dd tD)],[],[]⟩,[⟨[(0,dd .s),(1,dd tC)],[],[]⟩],aN N⟩
theorem jY(N:Nat):aD Tryz.prog (aGu N):=xf N (tc (lO N) (tc (tR N) (tc (wS N) (tc (yM N) (tc (aAd N) (tc (vO N) tn)))))) [5000045,5000041] [] 0 Tryz.func13 rfl (by kernel_rfl) fun a=>by kernel_rfl
def gO(N:Nat)(q:Str->Int->Int->Int->Int->TK->TG->TA->TG->TA->Option TO)(m:Str)(n j:Int)(l k:Int)(h:TK)(f:TG)(g:TA)(d:TG)(e:TA):Option TO:=if? (decide (j<n)) (jn? (gd? (0<=j) (gd? (j<(h.length:Int)) (gn? h j.toNat fun o=>bd? (iD N o) fun b=>if? (b.2==0) (gl? d.length d (gd? (((d.length+[(b.1.1,(b.1.2.1,(b.1.2.2.1,(b.1.2.2.2.1,(b.1.2.2.2.2.1,b.1.2.2.2.2.2)))))].length)*48)<=140737488355328) (gl? h.length h (gl? f.length f (gl? g.length g (gl? ((d++[(b.1.1,(b.1.2.1,(b.1.2.2.1,(b.1.2.2.2.1,(b.1.2.2.2.2.1,b.1.2.2.2.2.2)))))]).length) (d++[(b.1.1,(b.1.2.1,(b.1.2.2.1,(b.1.2.2.2.1,(b.1.2.2.2.2.1,b.1.2.2.2.2.2)))))]) (gl? e.length e (some (.inr (m,n,j,l,k,h,f,g,(d++[(b.1.1,(b.1.2.1,(b.1.2.2.1,(b.1.2.2.2.1,(b.1.2.2.2.2.1,b.1.2.2.2.2.2)))))]),e)))))))))) (bd? (iK N o) fun a=>if? (a.2.2.2.2.2.2.2.2==0) (gl? e.length e (gd? (((e.length+[(a.1,(a.2.1,(a.2.2.1,(a.2.2.2.1,(a.2.2.2.2.1,(a.2.2.2.2.2.1,(a.2.2.2.2.2.2.1,a.2.2.2.2.2.2.2.1)))))))].length)*80)<=140737488355328) (gl? h.length h (gl? f.length f (gl? g.length g (gl? d.length d (gl? ((e++[(a.1,(a.2.1,(a.2.2.1,(a.2.2.2.1,(a.2.2.2.2.1,(a.2.2.2.2.2.1,(a.2.2.2.2.2.2.1,a.2.2.2.2.2.2.2.1)))))))]).length) (e++[(a.1,(a.2.1,(a.2.2.1,(a.2.2.2.1,(a.2.2.2.2.1,(a.2.2.2.2.2.1,(a.2.2.2.2.2.2.1,a.2.2.2.2.2.2.2.1)))))))]) (some (.inr (m,n,j,l,k,h,f,g,d,(e++[(a.1,(a.2.1,(a.2.2.1,(a.2.2.2.1,(a.2.2.2.2.1,(a.2.2.2.2.2.1,(a.2.2.2.2.2.2.1,a.2.2.2.2.2.2.2.1)))))))]))))))))))) (vV (some (0,(([]:TG),(([]:TA),11))))))))) fun c=>ck .i64 (c.2.2.1+1) (gl? c.2.2.2.2.2.1.length c.2.2.2.2.2.1 (gl? c.2.2.2.2.2.2.1.length c.2.2.2.2.2.2.1 (gl? c.2.2.2.2.2.2.2.1.length c.2.2.2.2.2.2.2.1 (gl? c.2.2.2.2.2.2.2.2.1.length c.2.2.2.2.2.2.2.2.1 (gl? c.2.2.2.2.2.2.2.2.2.length c.2.2.2.2.2.2.2.2.2 (q c.1 c.2.1 (c.2.2.1+1) c.2.2.2.1 c.2.2.2.2.1 c.2.2.2.2.2.1 c.2.2.2.2.2.2.1 c.2.2.2.2.2.2.2.1 c.2.2.2.2.2.2.2.2.1 c.2.2.2.2.2.2.2.2.2))))))) (gl? d.length d (gl? e.length e (bd? (aN N (k,(d,e))) fun p=>bd? (if? (p.2!=0) (gl? f.length f (gl? g.length g (gl? d.length d (gl? e.length e (some (true,l,k,f,g,d,e)))))) (gl? f.length f (gl? g.length g (gl? d.length d (gl? e.length e (some ((!(p.1==m)),l,k,f,g,d,e))))))) fun i=>if? i.1 (some (0,(([]:TG),(([]:TA),11)))) (gl? i.2.2.2.2.2.1.length i.2.2.2.2.2.1 (gl? i.2.2.2.2.2.2.length i.2.2.2.2.2.2 (some (i.2.2.1,(i.2.2.2.2.2.1,(i.2.2.2.2.2.2,0)))))))))
def gU(N:Nat):Nat->Str->Int->Int->Int->Int->TK->TG->TA->TG->TA->Option TO:=aL [.s,tC,tC,tC,tC,(.sl .s),(.sl tB),(.sl tA),(.sl tB),(.sl tA)] (gO N)
def cM(N:Nat)(a:Str):Option TO:=bd? (fJ N (aE a)) fun b=>if? (b.2.2!=0) (some (0,(([]:TG),(([]:TA),11)))) (gd? (0<=b.2.1) (gd? (b.2.1.toNat<=a.length) (gd? (a.length<=a.length) (bd? (fA N (aE (cm (a.length-b.2.1.toNat) (df b.2.1.toNat a)))) fun c=>if? (c.2.1!=0) (some (0,(([]:TG),(([]:TA),11)))) (gl? c.2.2.length c.2.2 (gU N N a (c.2.2.length:Int) 0 0 b.1 c.2.2 ([]:TG) ([]:TA) ([]:TG) ([]:TA)))))))
abbrev aGm(N:Nat):Sig:=⟨14,⟨[(0,dd .s)],[],[]⟩,[⟨[(0,.agg [dd tC,dd (.sl tB),dd (.sl tA)]),(1,dd tC)],[],[]⟩],cM N⟩
theorem vZ(N:Nat):aD Tryz.prog (aGm N):=xf N (tc (pY N) (tc (uL N) (tc (aDh N) (tc (aGe N) (tc (jY N) tn))))) [59,72] [⟨25,true,⟨[(2,.ptr (.O 0) 0),(4,.ptr (.O 1) 0),(87,dd .b)],[],[some (.box [dd tC,.slw (.O 2) tB 0,.slw (.O 3) tA 0]),some (.box [dd tC,.slw (.O 4) tB 0,.slw (.O 5) tA 0]),some (.row true tB []),some (.row true tA []),some (.row true tB []),some (.row true tA [])]⟩⟩,⟨16,false,⟨[(0,dd .s),(2,.ptr (.O 0) 0),(4,.ptr (.O 1) 0),(42,.slw (.O 2) .s 0),(43,dd tC),(44,dd tC)],[],[some (.box [dd tC,.slw (.O 3) tB 0,.slw (.O 4) tA 0]),some (.box [dd tC,.slw (.O 5) tB 0,.slw (.O 6) tA 0]),some (.row true .s []),some (.row true tB []),some (.row true tA []),some (.row true tB []),some (.row true tA [])]⟩⟩,⟨13,false,⟨[(0,dd .s),(2,.ptr (.O 0) 0),(4,.ptr (.O 1) 0),(42,.slw (.O 2) .s 0),(43,dd tC),(44,dd tC)],[],[some (.box [dd tC,.slw (.O 3) tB 0,.slw (.O 4) tA 0]),some (.box [dd tC,.slw (.O 5) tB 0,.slw (.O 6) tA 0]),some (.row true .s []),some (.row true tB []),some (.row true tA []),some (.row true tB []),some (.row true tA [])]⟩⟩] 0 Tryz.func14 rfl (by kernel_rfl) fun a=>by kernel_rfl
def uN(N:Nat)(a:TG)(b:Int):Option Bool:=bd? (if? (decide ((a.length:Int)<=b)) (some true) (if? (decide ((a.length:Int)>4000)) (some (decide ((a.length:Int)<=4010))) (some false))) fun c=>some c
abbrev aT5(N:Nat):Sig:=⟨84,⟨[(0,dd (.sl tB)),(1,dd tC)],[],[]⟩,[⟨[(0,dd .b)],[],[]⟩],uN N⟩
theorem aVc(N:Nat):aD Tryz.prog (aT5 N):=xf N tn [] [⟨2,true,⟨[(4,dd .b)],[],[]⟩⟩] 0 Tryz.func84 rfl (by kernel_rfl) fun a=>by kernel_rfl
def fY(rec2:Int->TE->Option Bool)(a:Int)(b:TE):Option Bool:=if? (decide (a<(b.length:Int))) (bd? (aU b a fun d=>if? (decide ((d.2.2.1.length:Int)>12)) (some (a,true,b)) (aU b a fun e=>some (a,decide ((e.2.2.2.length:Int)>12),b))) fun c=>if? c.2.1 (some false) (ck .i64 (c.1+1) (rec2 (c.1+1) c.2.2))) (some true)
def fX:Nat->Int->TE->Option Bool:=aL [tC,(.sl tE)] (fY)
def iT(N:Nat)(a:TE):Option Bool:=if? (decide ((a.length:Int)>20)) (some false) (fX N 0 a)
abbrev aFa(N:Nat):Sig:=⟨130,⟨[(0,dd (.w (.sl tE)))],[],[]⟩,[⟨[(0,dd .b)],[],[]⟩],iT N⟩
theorem aF3(N:Nat):aD Tryz.prog (aFa N):=xf N tn [] [⟨10,true,⟨[(1,.ptr (.O 0) 0),(3,dd tC),(34,dd .b)],[],[some (.box [dd (.sl tE)])]⟩⟩,⟨6,false,⟨[(1,.ptr (.O 0) 0),(3,dd tC)],[],[some (.box [dd (.sl tE)])]⟩⟩] 0 Tryz.func130 rfl (by kernel_rfl) fun a=>by kernel_rfl
def pR(N:Nat)(c:TA->Int->Option Bool)(b:TA)(a:Int):Option Bool:=if? (decide (a<(b.length:Int))) (aU b a fun d=>bd? (iT N d.2.2.2.2.2.2.2) fun e=>if? (!e) (some false) (ck .i64 (a+1) (c b (a+1)))) (some true)
def kY(N:Nat):Nat->TA->Int->Option Bool:=aL [(.sl tA),tC] (pR N)
def uX(N:Nat)(a:TA)(c:Int):Option Bool:=bd? (if? (decide ((a.length:Int)>c)) (if? (decide ((a.length:Int)<=400)) (some (a,true)) (some (a,decide ((a.length:Int)>410)))) (some (a,decide ((a.length:Int)>410)))) fun b=>if? b.2 (some false) (kY N N b.1 0)
abbrev aTl(N:Nat):Sig:=⟨85,⟨[(0,dd (.sl tA)),(1,dd tC)],[],[]⟩,[⟨[(0,dd .b)],[],[]⟩],uX N⟩
theorem aUl(N:Nat):aD Tryz.prog (aTl N):=xf N (tc (aF3 N) tn) [] [⟨6,false,⟨[(0,dd (.sl tA)),(5,dd tC)],[],[]⟩⟩,⟨2,true,⟨[(0,dd (.sl tA)),(20,dd .b)],[],[]⟩⟩] 0 Tryz.func85 rfl (by kernel_rfl) fun a=>by kernel_rfl
def qI(N:Nat)(a:TF)(b:Int):Option Bool:=bd? (uN N a.2.1 b) fun c=>bd? (uX N a.2.2 b) fun d=>bd? (if? c (some d) (some false)) fun e=>some e
abbrev aUu(N:Nat):Sig:=⟨35,⟨[(0,dd tD),(1,dd tC)],[],[]⟩,[⟨[(0,dd .b)],[],[]⟩],qI N⟩
theorem aT0(N:Nat):aD Tryz.prog (aUu N):=xf N (tc (aVc N) (tc (aUl N) tn)) [] [⟨3,true,⟨[(4,dd .b)],[],[]⟩⟩] 0 Tryz.func35 rfl (by kernel_rfl) fun a=>by kernel_rfl
def eV(N:Nat)(a:TF):Option Bool:=bd? (qI N (a.1,(a.2.1,a.2.2)) 30) fun b=>some b
abbrev aVo(N:Nat):Sig:=⟨9,⟨[(0,dd tD)],[],[]⟩,[⟨[(0,dd .b)],[],[]⟩],eV N⟩
theorem aTv(N:Nat):aD Tryz.prog (aVo N):=xf N (tc (aT0 N) tn) [] [] 0 Tryz.func9 rfl (by kernel_rfl) fun a=>by kernel_rfl
def yB(N:Nat):Option (TG×TA):=some ([(3,(1,(100,(120,(50,0))))),(3,(2,(110,(114,(60,2))))),(3,(5,(130,(140,(50,0)))))],[(2,(3,(4,(2,(0,(200,(1,([]:TE))))))))])
abbrev aIc(N:Nat):Sig:=⟨36,⟨[],[],[]⟩,[⟨[(0,.slw (.O 0) tB 0),(1,.slw (.O 1) tA 0)],[],[some (.row true tB []),some (.row true tA [])]⟩],yB N⟩
theorem aIe(N:Nat):aD Tryz.prog (aIc N):=xf N tn [] [] 0 Tryz.func36 rfl (by kernel_rfl) fun a=>by kernel_rfl
def oH(rec3:TG->TG->Int->Option Bool)(d e:TG)(c:Int):Option Bool:=if? (decide (c<(d.length:Int))) (aU d c fun a=>aU e c fun b=>if? (!(nB [1,1,1,1,1] (a.1==b.1) (nB [1,1,1,1] (a.2.1==b.2.1) (nB [1,1,1] (a.2.2.1==b.2.2.1) (nB [1,1] (a.2.2.2.1==b.2.2.2.1) (nB [1] (a.2.2.2.2.1==b.2.2.2.2.1) (nB ([]:(List Nat)) (a.2.2.2.2.2==b.2.2.2.2.2) true))))))) (some false) (ck .i64 (c+1) (rec3 d e (c+1)))) (some true)
def nX:Nat->TG->TG->Int->Option Bool:=aL [(.sl tB),(.sl tB),tC] (oH)
def nY(N:Nat)(a b:TG):Option Bool:=if? ((a.length:Int)!=(b.length:Int)) (some false) (nX N a b 0)
abbrev aSq(N:Nat):Sig:=⟨26,⟨[(0,dd (.sl tB)),(1,dd (.sl tB))],[],[]⟩,[⟨[(0,dd .b)],[],[]⟩],nY N⟩
theorem aD9(N:Nat):aD Tryz.prog (aSq N):=xf N tn [] [⟨6,false,⟨[(0,dd (.sl tB)),(1,dd (.sl tB)),(5,dd tC)],[],[]⟩⟩] 0 Tryz.func26 rfl (by kernel_rfl) fun a=>by kernel_rfl
def fS(rec3:Int->TE->TE->Option Bool)(a:Int)(d e:TE):Option Bool:=if? (decide (a<(d.length:Int))) (aU d a fun b=>aU e a fun c=>if? (!(oU [(Sh.s 0),(Sh.s 2),(Sh.s 2)] (b.1==c.1) (oU [(Sh.s 2),(Sh.s 2)] (b.2.1==c.2.1) (oU [(Sh.s 2)] (b.2.2.1==c.2.2.1) (oU ([]:(List Sh)) (b.2.2.2==c.2.2.2) true))))) (some false) (ck .i64 (a+1) (rec3 (a+1) d e))) (some true)
def fV:Nat->Int->TE->TE->Option Bool:=aL [tC,(.sl tE),(.sl tE)] (fS)
def iU(N:Nat)(a b:TE):Option Bool:=if? ((a.length:Int)!=(b.length:Int)) (some false) (fV N 0 a b)
abbrev aFt(N:Nat):Sig:=⟨127,⟨[(0,dd (.w (.sl tE))),(1,dd (.w (.sl tE)))],[],[]⟩,[⟨[(0,dd .b)],[],[]⟩],iU N⟩
theorem aGb(N:Nat):aD Tryz.prog (aFt N):=xf N tn [] [⟨6,false,⟨[(2,.ptr (.O 0) 0),(3,.ptr (.O 1) 0),(5,dd tC)],[],[some (.box [dd (.sl tE)]),some (.box [dd (.sl tE)])]⟩⟩] 0 Tryz.func127 rfl (by kernel_rfl) fun a=>by kernel_rfl
def oF(N:Nat)(a b:TH):Option Bool:=bd? (iU N a.2.2.2.2.2.2.2 b.2.2.2.2.2.2.2) fun c=>bd? (if? c (if? (a.1==b.1) (if? (a.2.1==b.2.1) (if? (a.2.2.1==b.2.2.1) (if? (a.2.2.2.1==b.2.2.2.1) (if? (a.2.2.2.2.1==b.2.2.2.2.1) (if? (a.2.2.2.2.2.1==b.2.2.2.2.2.1) (some (a.2.2.2.2.2.2.1==b.2.2.2.2.2.2.1)) (some false)) (some false)) (some false)) (some false)) (some false)) (some false)) (some false)) fun d=>some d
abbrev aSr(N:Nat):Sig:=⟨70,⟨[(0,dd tA),(1,dd tA)],[],[]⟩,[⟨[(0,dd .b)],[],[]⟩],oF N⟩
theorem aQv(N:Nat):aD Tryz.prog (aSr N):=xf N (tc (aGb N) tn) [] [⟨2,true,⟨[(4,dd .b)],[],[]⟩⟩] 0 Tryz.func70 rfl (by kernel_rfl) fun a=>by kernel_rfl
def gP(N:Nat)(rec3:TA->TA->Int->Option Bool)(d e:TA)(c:Int):Option Bool:=if? (decide (c<(d.length:Int))) (aU d c fun a=>aU e c fun b=>bd? (oF N (a.1,(a.2.1,(a.2.2.1,(a.2.2.2.1,(a.2.2.2.2.1,(a.2.2.2.2.2.1,(a.2.2.2.2.2.2.1,a.2.2.2.2.2.2.2))))))) (b.1,(b.2.1,(b.2.2.1,(b.2.2.2.1,(b.2.2.2.2.1,(b.2.2.2.2.2.1,(b.2.2.2.2.2.2.1,b.2.2.2.2.2.2.2)))))))) fun f=>if? (!f) (some false) (ck .i64 (c+1) (rec3 d e (c+1)))) (some true)
def gQ(N:Nat):Nat->TA->TA->Int->Option Bool:=aL [(.sl tA),(.sl tA),tC] (gP N)
def gJ(N:Nat)(a b:TA):Option Bool:=if? ((a.length:Int)!=(b.length:Int)) (some false) (gQ N N a b 0)
abbrev aGi(N:Nat):Sig:=⟨27,⟨[(0,dd (.sl tA)),(1,dd (.sl tA))],[],[]⟩,[⟨[(0,dd .b)],[],[]⟩],gJ N⟩
theorem wF(N:Nat):aD Tryz.prog (aGi N):=xf N (tc (aQv N) tn) [] [⟨6,false,⟨[(0,dd (.sl tA)),(1,dd (.sl tA)),(5,dd tC)],[],[]⟩⟩] 0 Tryz.func27 rfl (by kernel_rfl) fun a=>by kernel_rfl
def dK(N:Nat)(a b:TF):Option Bool:=bd? (nY N a.2.1 b.2.1) fun c=>bd? (gJ N a.2.2 b.2.2) fun d=>bd? (if? c (if? d (some (a.1==b.1)) (some false)) (some false)) fun e=>some e
abbrev aQf(N:Nat):Sig:=⟨21,⟨[(0,dd tD),(1,dd tD)],[],[]⟩,[⟨[(0,dd .b)],[],[]⟩],dK N⟩
theorem aF0(N:Nat):aD Tryz.prog (aQf N):=xf N (tc (aD9 N) (tc (wF N) tn)) [] [⟨3,true,⟨[(4,dd .b)],[],[]⟩⟩] 0 Tryz.func21 rfl (by kernel_rfl) fun a=>by kernel_rfl
def aEy(N:Nat)(b:TG)(c:TA)(d:Int):Option TO:=bd? (eN N b c) fun e=>if? (e !=0) (some (0,(([]:TG),(([]:TA),e)))) (bd? (lC N d) fun f=>if? (!f) (some (0,(([]:TG),(([]:TA),3)))) (bd? (xJ N b c d) fun a=>gl? a.2.1.length a.2.1 (gl? a.2.2.length a.2.2 (some (a.1,(a.2.1,(a.2.2,0)))))))
abbrev aRc(N:Nat):Sig:=⟨11,⟨[(0,dd (.sl tB)),(1,dd (.sl tA)),(2,dd tC)],[],[]⟩,[⟨[(0,.agg [dd tC,dd (.sl tB),dd (.sl tA)]),(1,dd tC)],[],[]⟩],aEy N⟩
theorem aR9(N:Nat):aD Tryz.prog (aRc N):=xf N (tc (qQ N) (tc (aCf N) (tc (aEf N) tn))) [] [] 0 Tryz.func11 rfl (by kernel_rfl) fun a=>by kernel_rfl
def xG(N:Nat):Option TI:=some ((Arr.from [1779033703,3144134277,1013904242,2773480762,1359893119,2600822924,528734635,1541459225] 8),((Arr.zero 64),0))
abbrev aQu(N:Nat):Sig:=⟨80,⟨[],[],[]⟩,[⟨[(0,dd tG)],[],[]⟩],xG N⟩
theorem aSl(N:Nat):aD Tryz.prog (aQu N):=xf N tn [] [] 0 Tryz.func80 rfl (by kernel_rfl) fun a=>by kernel_rfl
def aG(N:Nat)(b a:Int):Option Int:=gd? (0<=(bits .and .u64 (δ .u64 a) 31)) (gd? ((bits .and .u64 (δ .u64 a) 31)<=(((gm .u32):Nat):Int)) (gd? (0<=(δ .u64 (32-(bits .and .u64 (δ .u64 a) 31)))) (gd? ((δ .u64 (32-(bits .and .u64 (δ .u64 a) 31)))<=(((gm .u32):Nat):Int)) (some (bits .or .u32 (δ .u32 (b*(2^(bits .and .u64 (δ .u64 a) 31).toNat))) (b/(2^(δ .u64 (32-(bits .and .u64 (δ .u64 a) 31))).toNat)))))))
abbrev aB1(N:Nat):Sig:=⟨173,⟨[(0,dd tI),(1,dd tC)],[],[]⟩,[⟨[(0,dd tI)],[],[]⟩],aG N⟩
theorem rF(N:Nat):aD Tryz.prog (aB1 N):=xf N tn [] [] 0 Tryz.func173 rfl (by kernel_rfl) fun a=>by kernel_rfl
def iS(i:TC->Int->Int->TC->Int->Int->(Arr 64)->(Arr 64)->Option TX)(d:TC)(a e:Int)(f:TC)(g b:Int)(h c:(Arr 64)):Option TX:=if? (decide (b<g)) (aU f b fun j=>gd? (0<=a) (gd? (a<((64:Nat):Int)) (gn? c.l a.toNat fun k=>gd? (0<=a) (gd? (a<((64:Nat):Int)) (gd? (a.toNat<64) (ck .i64 (b+1) (i d a e f g (b+1) h (Arr.set c a.toNat (bits .or .u32 (δ .u32 (k*(2^8))) (δ .u32 j)))))))))) (some (d,e,h,c))
def cT:Nat->TC->Int->Int->TC->Int->Int->(Arr 64)->(Arr 64)->Option TX:=aL [tH,tC,tC,tH,tC,tC,tN,tN] (iS)
def eW(N:Nat)(rec2:TC->Int->(Arr 64)->(Arr 64)->Option (Arr 64))(c:TC)(a:Int)(g b:(Arr 64)):Option (Arr 64):=if? (decide (a<64)) (bd? (if? (decide (a<16)) (ck .i64 (4*a) (ck .i64 (4*a) (ck .i64 ((4*a)+4) (gd? (0<=((4*a)+4)) (gd? (0<=(4*a)) (gd? ((4*a).toNat<=((4*a)+4).toNat) (gd? (((4*a)+4).toNat<=c.length) (cT N c a a (cm (((4*a)+4).toNat-(4*a).toNat) (df (4*a).toNat c)) (((cm (((4*a)+4).toNat-(4*a).toNat) (df (4*a).toNat c)).length:Nat):Int) 0 g b)))))))) (ck .i64 (a-15) (gd? (0<=(a-15)) (gd? ((a-15)<((64:Nat):Int)) (gn? b.l ((a-15).toNat) fun e=>ck .i64 (a-2) (gd? (0<=(a-2)) (gd? ((a-2)<((64:Nat):Int)) (gn? b.l ((a-2).toNat) fun f=>bd? (aG N e (-7)) fun h=>bd? (aG N e (-18)) fun i=>bd? (aG N f (-17)) fun j=>bd? (aG N f (-19)) fun k=>ck .i64 (a-16) (gd? (0<=(a-16)) (gd? ((a-16)<((64:Nat):Int)) (gn? b.l ((a-16).toNat) fun m=>ck .i64 (a-7) (gd? (0<=(a-7)) (gd? ((a-7)<((64:Nat):Int)) (gn? b.l ((a-7).toNat) fun n=>gd? (0<=a) (gd? (a<((64:Nat):Int)) (gd? (a.toNat<64) (some (c,a,g,(Arr.set b a.toNat (δ .u32 ((δ .u32 ((δ .u32 (m+(bits .xor .u32 (bits .xor .u32 h i) (e/(2^3)))))+n))+(bits .xor .u32 (bits .xor .u32 j k) (f/(2^10)))))))))))))))))))))))) fun d=>ck .i64 (d.2.1+1) (rec2 d.1 (d.2.1+1) d.2.2.1 d.2.2.2)) (some b)
def eU(N:Nat):Nat->TC->Int->(Arr 64)->(Arr 64)->Option (Arr 64):=aL [tH,tC,tN,tN] (eW N)
def lN(N:Nat)(a:TC):Option (Arr 64):=eU N N a 0 (Arr.zero 64) (Arr.zero 64)
abbrev aIg(N:Nat):Sig:=⟨147,⟨[(0,dd tH)],[],[]⟩,[⟨[(0,dd tN)],[],[]⟩],lN N⟩
theorem aIk(N:Nat):aD Tryz.prog (aIg N):=xf N (tc (rF N) tn) [] [⟨7,true,⟨[(0,dd tH),(2,.apt (.O 0) 0),(3,.apt (.O 1) 0),(11,dd tC)],[],[some (.arr true 64 .u32 (Arr.zero 64)),some (.arr true 64 .u32 (Arr.zero 64))]⟩⟩,⟨13,false,⟨[(0,dd tH),(2,.apt (.O 0) 0),(3,.apt (.O 1) 0),(4,dd tC),(11,dd tC),(22,dd tH),(23,dd tC),(24,dd tC)],[],[some (.arr true 64 .u32 (Arr.zero 64)),some (.arr true 64 .u32 (Arr.zero 64))]⟩⟩,⟨4,false,⟨[(0,dd tH),(2,.apt (.O 0) 0),(3,.apt (.O 1) 0),(11,dd tC)],[],[some (.arr true 64 .u32 (Arr.zero 64)),some (.arr true 64 .u32 (Arr.zero 64))]⟩⟩] 0 Tryz.func147 rfl (by kernel_rfl) fun a=>by kernel_rfl
def lT(N:Nat)(a b:Int)(c d:Int):Option Int:=ck .i64 (-b) (bd? (aG N a (-b)) fun e=>ck .i64 (-c) (bd? (aG N a (-c)) fun f=>ck .i64 (-d) (bd? (aG N a (-d)) fun g=>some (bits .xor .u32 (bits .xor .u32 e f) g))))
abbrev aXy(N:Nat):Sig:=⟨148,⟨[(0,dd tI),(1,dd tC),(2,dd tC),(3,dd tC)],[],[]⟩,[⟨[(0,dd tI)],[],[]⟩],lT N⟩
theorem aXe(N:Nat):aD Tryz.prog (aXy N):=xf N (tc (rF N) tn) [] [] 0 Tryz.func148 rfl (by kernel_rfl) fun a=>by kernel_rfl
def aD6(g:Int->(Arr 8)->(Arr 8)->(Arr 4)->(Arr 4)->Option (Arr 8))(a:Int)(b h:(Arr 8))(c d:(Arr 4)):Option (Arr 8):=if? (decide (a<4)) (gd? (0<=a) (gd? (a<((8:Nat):Int)) (gn? b.l a.toNat fun e=>gd? (0<=a) (gd? (a<((4:Nat):Int)) (gn? c.l a.toNat fun f=>gd? (0<=a) (gd? (a<((8:Nat):Int)) (gd? (a.toNat<8) (ck .i64 (a+4) (gd? (0<=(a+4)) (gd? ((a+4)<((8:Nat):Int)) (gn? ((Arr.set b a.toNat (δ .u32 (e+f))).l) ((a+4).toNat) fun i=>gd? (0<=a) (gd? (a<((4:Nat):Int)) (gn? d.l a.toNat fun j=>gd? (0<=(a+4)) (gd? ((a+4)<((8:Nat):Int)) (gd? ((a+4).toNat<8) (ck .i64 (a+1) (g (a+1) (Arr.set (Arr.set b a.toNat (δ .u32 (e+f))) (a+4).toNat (δ .u32 (i+j))) h c d))))))))))))))))) (some b)
def iO:Nat->Int->(Arr 8)->(Arr 8)->(Arr 4)->(Arr 4)->Option (Arr 8):=aL [tC,(.ar 8 .u32),(.ar 8 .u32),(.ar 4 .u32),(.ar 4 .u32)] (aD6)
def iI(N:Nat)(q:(Arr 64)->Int->(Arr 8)->(Arr 8)->(Arr 64)->(Arr 4)->(Arr 4)->Option (Arr 8))(d:(Arr 64))(c:Int)(e f:(Arr 8))(g:(Arr 64))(a b:(Arr 4)):Option (Arr 8):=if? (decide (c<64)) (aU d.l c fun h=>gn? b.l (3) fun i=>gn? b.l (0) fun r=>bd? (lT N r 6 11 25) fun j=>gn? b.l (0) fun k=>gn? b.l (1) fun m=>gn? b.l (0) fun n=>gn? b.l (2) fun o=>gd? (0<=c) (gd? (c<((64:Nat):Int)) (gn? g.l c.toNat fun p=>gn? a.l (0) fun s=>bd? (lT N s 2 13 22) fun t=>gn? a.l (0) fun u=>gn? a.l (1) fun v=>gn? a.l (0) fun w=>gn? a.l (2) fun x=>gn? a.l (1) fun y=>gn? a.l (2) fun z=>gn? a.l (3) fun aa=>gn? b.l (0) fun ab=>gn? b.l (1) fun ac=>gn? b.l (2) fun ad=>gn? a.l (0) fun ae=>gn? a.l (1) fun af=>gn? a.l (2) fun ag=>ck .i64 (c+1) (q d (c+1) e f g (Arr.from [(δ .u32 ((δ .u32 ((δ .u32 ((δ .u32 ((δ .u32 (i+j))+(bits .xor .u32 (bits .and .u32 k m) (bits .and .u32 (bits .xor .u32 (ite ((IntKind.signed IntKind.u32)=true) (-1) (IntKind.max IntKind.u32)) n) o))))+h))+p))+(δ .u32 (t+(bits .xor .u32 (bits .xor .u32 (bits .and .u32 u v) (bits .and .u32 w x)) (bits .and .u32 y z)))))),ae,af,ag] 4) (Arr.from [(δ .u32 (aa+(δ .u32 ((δ .u32 ((δ .u32 ((δ .u32 (i+j))+(bits .xor .u32 (bits .and .u32 k m) (bits .and .u32 (bits .xor .u32 (ite ((IntKind.signed IntKind.u32)=true) (-1) (IntKind.max IntKind.u32)) n) o))))+h))+p)))),ab,ac,ad] 4))))) (iO N 0 e f a b)
def fF(N:Nat):Nat->(Arr 64)->Int->(Arr 8)->(Arr 8)->(Arr 64)->(Arr 4)->(Arr 4)->Option (Arr 8):=aL [tN,tC,(.ar 8 .u32),(.ar 8 .u32),tN,(.ar 4 .u32),(.ar 4 .u32)] (iI N)
def dW(N:Nat)(a:(Arr 8))(b:TC):Option (Arr 8):=bd? (lN N b) fun c=>gd? (a=a) (gd? (a=a) (gd? (a=a) (fF N N (Arr.mk gl0 (XS.ev._proof_1 gl0)) 0 a (Arr.zero 8) c (Arr.part a 0 4) (Arr.part a 4 4))))
abbrev aIi(N:Nat):Sig:=⟨129,⟨[(0,dd (.ar 8 .u32)),(1,dd tH)],[],[]⟩,[⟨[(0,dd (.ar 8 .u32))],[],[]⟩],dW N⟩
theorem aIu(N:Nat):aD Tryz.prog (aIi N):=xf N (tc (aIk N) (tc (aXe N) tn)) [17,20] [⟨15,false,⟨[(2,.apt (.O 0) 0),(4,.apt (.O 1) 0),(6,.apt (.O 2) 0),(7,.apt (.O 3) 0),(94,dd tC)],[],[some (.arr true 8 .u32 (Arr.zero 8)),some (.arr true 8 .u32 (Arr.zero 8)),some (.arr true 4 .u32 (Arr.zero 4)),some (.arr true 4 .u32 (Arr.zero 4))]⟩⟩,⟨5,false,⟨[(2,.apt (.O 0) 0),(4,.apt (.O 1) 0),(5,.apt (.O 2) 0),(6,.apt (.O 3) 0),(7,.apt (.O 4) 0),(21,dd tN),(22,dd tC)],[],[some (.arr true 8 .u32 (Arr.zero 8)),some (.arr true 8 .u32 (Arr.zero 8)),some (.arr true 64 .u32 (Arr.zero 64)),some (.arr true 4 .u32 (Arr.zero 4)),some (.arr true 4 .u32 (Arr.zero 4))]⟩⟩] 0 Tryz.func129 rfl (by kernel_rfl) fun a=>by kernel_rfl
def kL(N:Nat)(rec3:Str->TI->TI->Option TI)(b:Str)(a c:TI):Option TI:=if? (!(b==([]:Str))) (gd? (0<=(δ .i64 (ei a.2.2 64))) (gd? ((δ .i64 (ei a.2.2 64)).toNat<=64) (gd? (((δ .i64 (ei a.2.2 64)).toNat+(64-(δ .i64 (ei a.2.2 64)).toNat))<=(ArL.n (ArL.mk 64 IntKind.u8 a.2.1))) (gd? (0<=(((Min.min (aE b).length (64-(δ .i64 (ei a.2.2 64)).toNat)):Nat):Int)) (gd? ((((Min.min (aE b).length (64-(δ .i64 (ei a.2.2 64)).toNat)):Nat):Int).toNat<=b.length) (gd? (b.length<=b.length) (ck .i64 ((δ .i64 (ei a.2.2 64))+(((Min.min (aE b).length (64-(δ .i64 (ei a.2.2 64)).toNat)):Nat):Int)) (if? (((δ .i64 (ei a.2.2 64))+(((Min.min (aE b).length (64-(δ .i64 (ei a.2.2 64)).toNat)):Nat):Int))==64) (gd? ((0+(64-0))<=(ArL.n (ArL.mk 64 IntKind.u8 (Arr.put (ArL.x (ArL.mk 64 IntKind.u8 a.2.1)) (δ .i64 (ei a.2.2 64)).toNat (cm (Min.min (aE b).length (64-(δ .i64 (ei a.2.2 64)).toNat)) (aE b)))))) (bd? (dW N a.1 (aC3 (ArL.x (ArL.mk 64 IntKind.u8 (Arr.put (ArL.x (ArL.mk 64 IntKind.u8 a.2.1)) (δ .i64 (ei a.2.2 64)).toNat (cm (Min.min (aE b).length (64-(δ .i64 (ei a.2.2 64)).toNat)) (aE b))))).l 0 (64-0) (ArL.n (ArL.mk 64 IntKind.u8 (Arr.put (ArL.x (ArL.mk 64 IntKind.u8 a.2.1)) (δ .i64 (ei a.2.2 64)).toNat (cm (Min.min (aE b).length (64-(δ .i64 (ei a.2.2 64)).toNat)) (aE b))))))) fun d=>rec3 (cm (b.length-(((Min.min (aE b).length (64-(δ .i64 (ei a.2.2 64)).toNat)):Nat):Int).toNat) (df (((Min.min (aE b).length (64-(δ .i64 (ei a.2.2 64)).toNat)):Nat):Int).toNat b)) (d,((Arr.put (ArL.x (ArL.mk 64 IntKind.u8 a.2.1)) (δ .i64 (ei a.2.2 64)).toNat (cm (Min.min (aE b).length (64-(δ .i64 (ei a.2.2 64)).toNat)) (aE b))),(δ .u64 (a.2.2+(δ .u64 (((Min.min (aE b).length (64-(δ .i64 (ei a.2.2 64)).toNat)):Nat):Int)))))) c)) (rec3 (cm (b.length-(((Min.min (aE b).length (64-(δ .i64 (ei a.2.2 64)).toNat)):Nat):Int).toNat) (df (((Min.min (aE b).length (64-(δ .i64 (ei a.2.2 64)).toNat)):Nat):Int).toNat b)) (a.1,((Arr.put (ArL.x (ArL.mk 64 IntKind.u8 a.2.1)) (δ .i64 (ei a.2.2 64)).toNat (cm (Min.min (aE b).length (64-(δ .i64 (ei a.2.2 64)).toNat)) (aE b))),(δ .u64 (a.2.2+(δ .u64 (((Min.min (aE b).length (64-(δ .i64 (ei a.2.2 64)).toNat)):Nat):Int)))))) c))))))))) (some (a.1,(a.2.1,a.2.2)))
def bX(N:Nat):Nat->Str->TI->TI->Option TI:=aL [.s,tG,tG] (kL N)
def cA(N:Nat)(a:TI)(b:Str):Option TI:=bX N N b (a.1,(a.2.1,a.2.2)) ((Arr.zero 8),((Arr.zero 64),0))
abbrev aEk(N:Nat):Sig:=⟨81,⟨[(0,dd tG),(1,dd .s)],[],[]⟩,[⟨[(0,dd tG)],[],[]⟩],cA N⟩
theorem uP(N:Nat):aD Tryz.prog (aEk N):=xf N (tc (aIu N) tn) [] [⟨2,false,⟨[(1,dd .s),(2,.rpt (.O 0) 0),(4,.rpt (.O 1) 0)],[],[some (.rb true tG (Ty.z tG)),some (.rb true tG (Ty.z tG))]⟩⟩] 0 Tryz.func81 rfl (by kernel_rfl) fun a=>by kernel_rfl
def fZ(d:Int->TI->(Arr 32)->(Arr 32)->Option (Arr 32))(a:Int)(b:TI)(e c:(Arr 32)):Option (Arr 32):=if? (decide (a<32)) (ck .i64 (lz a 4) (gd? (0<=(lz a 4)) (gd? ((lz a 4)<((8:Nat):Int)) (gn? ((ArL.x (ArL.mk 8 IntKind.u32 b.1)).l) ((lz a 4).toNat) fun f=>ck .i64 (8*(ei a 4)) (ck .i64 (24-(8*(ei a 4))) (gd? (0<=(24-(8*(ei a 4)))) (gd? ((24-(8*(ei a 4)))<=(((gm .u32):Nat):Int)) (gd? (0<=a) (gd? (a<((32:Nat):Int)) (gd? (a.toNat<32) (ck .i64 (a+1) (d (a+1) b e (Arr.set c a.toNat (δ .u8 (f/(2^(24-(8*(ei a 4))).toNat)))))))))))))))) (some c)
def eA:Nat->Int->TI->(Arr 32)->(Arr 32)->Option (Arr 32):=aL [tC,tG,(.ar 32 .u8),(.ar 32 .u8)] (fZ)
def fW(N:Nat)(g:Int->Int->TI->(Arr 32)->TC->Option (Arr 32))(c a:Int)(d:TI)(f:(Arr 32))(b:TC):Option (Arr 32):=if? (decide (a<8)) (ck .i64 (8*a) (ck .i64 (56-(8*a)) (gd? (0<=(56-(8*a))) (gd? ((56-(8*a))<=(((gm .u64):Nat):Int)) (gl? b.length b (gd? (((b.length+[(δ .u8 (c/(2^(56-(8*a)).toNat)))].length)*1)<=140737488355328) (ck .i64 (a+1) (gl? ((b++[(δ .u8 (c/(2^(56-(8*a)).toNat)))]).length) (b++[(δ .u8 (c/(2^(56-(8*a)).toNat)))]) (g c (a+1) d f (b++[(δ .u8 (c/(2^(56-(8*a)).toNat)))])))))))))) (gl? b.length b (bd? (cA N (d.1,(d.2.1,d.2.2)) (aO b)) fun e=>eA N 0 (e.1,(e.2.1,e.2.2)) f (Arr.zero 32)))
def bZ(N:Nat):Nat->Int->Int->TI->(Arr 32)->TC->Option (Arr 32):=aL [tK,tC,tG,(.ar 32 .u8),tH] (fW N)
def kR(N:Nat)(rec2:Int->TI->(Arr 32)->TC->Option (Arr 32))(c:Int)(b:TI)(d:(Arr 32))(a:TC):Option (Arr 32):=ck .i64 ((δ .i64 b.2.2)+(a.length:Int)) (if? ((ei ((δ .i64 b.2.2)+(a.length:Int)) 64)!=56) (gl? a.length a (gd? (((a.length+[0].length)*1)<=140737488355328) (gl? ((a++[0]).length) (a++[0]) (rec2 c b d (a++[0]))))) (gl? a.length a (bZ N N c 0 b d a)))
def fP(N:Nat):Nat->Int->TI->(Arr 32)->TC->Option (Arr 32):=aL [tK,tG,(.ar 32 .u8),tH] (kR N)
def fD(N:Nat)(a:TI):Option (Arr 32):=fP N N (δ .u64 (8*a.2.2)) (a.1,(a.2.1,a.2.2)) (Arr.zero 32) [128]
abbrev aE6(N:Nat):Sig:=⟨83,⟨[(0,dd tG)],[],[]⟩,[⟨[(0,dd (.ar 32 .u8))],[],[]⟩],fD N⟩
theorem aDg(N:Nat):aD Tryz.prog (aE6 N):=xf N (tc (uP N) tn) [22,34] [⟨18,false,⟨[(1,.rpt (.O 0) 0),(2,.apt (.O 1) 0),(6,.apt (.O 2) 0),(40,dd tC)],[],[some (.rb true tG (Ty.z tG)),some (.arr true 32 .u8 (Arr.zero 32)),some (.arr true 32 .u8 (Arr.zero 32))]⟩⟩,⟨9,false,⟨[(1,.rpt (.O 0) 0),(2,.apt (.O 1) 0),(3,dd tK),(4,.slw (.O 2) (.i .u8) 0),(23,dd tC)],[],[some (.rb true tG (Ty.z tG)),some (.arr true 32 .u8 (Arr.zero 32)),some (.row true (.i .u8) [])]⟩⟩,⟨4,false,⟨[(1,.rpt (.O 0) 0),(2,.apt (.O 1) 0),(3,dd tK),(4,.slw (.O 2) (.i .u8) 0)],[],[some (.rb true tG (Ty.z tG)),some (.arr true 32 .u8 (Arr.zero 32)),some (.row true (.i .u8) [])]⟩⟩] 0 Tryz.func83 rfl (by kernel_rfl) fun a=>by kernel_rfl
def vB(N:Nat)(g:TK->Int->Int->(Arr 16)->TI->Option (Arr 16))(e:TK)(f b:Int)(h:(Arr 16))(a:TI):Option (Arr 16):=if? (decide (b<f)) (aU e b fun i=>bd? (nS N i) fun c=>gl? c.length c (bd? (cA N (a.1,(a.2.1,a.2.2)) (aO c)) fun d=>ck .i64 (b+1) (g e f (b+1) h (d.1,(d.2.1,d.2.2))))) (bd? (fD N (a.1,(a.2.1,a.2.2))) fun j=>some (Arr.part j 0 16))
def uZ(N:Nat):Nat->TK->Int->Int->(Arr 16)->TI->Option (Arr 16):=aL [(.sl .s),tC,tC,(.ar 16 .u8),tG] (vB N)
def gE(N:Nat)(d:Int)(c:TK):Option (Arr 16):=bd? (xG N) fun a=>bd? (cA N (a.1,(a.2.1,a.2.2)) (aO [(δ .u8 d)])) fun b=>uZ N N c (c.length:Int) 0 (Arr.zero 16) (b.1,(b.2.1,b.2.2))
abbrev bCa(N:Nat):Sig:=⟨34,⟨[(0,dd tC),(1,dd (.sl .s))],[],[]⟩,[⟨[(0,dd (.ar 16 .u8))],[],[]⟩],gE N⟩
theorem aGy(N:Nat):aD Tryz.prog (bCa N):=xf N (tc (aSl N) (tc (uP N) (tc (aD0 N) (tc (aDg N) tn)))) [] [⟨4,false,⟨[(4,.apt (.O 0) 0),(5,.rpt (.O 1) 0),(15,dd (.sl .s)),(16,dd tC),(17,dd tC)],[],[some (.arr true 16 .u8 (Arr.zero 16)),some (.rb true tG (Ty.z tG))]⟩⟩] 0 Tryz.func34 rfl (by kernel_rfl) fun a=>by kernel_rfl
def fI(N:Nat)(a:TF):Option ((Arr 16)×Int):=bd? (aN N (a.1,(a.2.1,a.2.2))) fun b=>if? (b.2!=0) (some ((Arr.zero 16),b.2)) (bd? (gE N 196 [b.1]) fun c=>some (c,0))
abbrev aRb(N:Nat):Sig:=⟨15,⟨[(0,dd tD)],[],[]⟩,[⟨[(0,dd (.ar 16 .u8)),(1,dd tC)],[],[]⟩],fI N⟩
theorem aEz(N:Nat):aD Tryz.prog (aRb N):=xf N (tc (jY N) (tc (aGy N) tn)) [] [] 0 Tryz.func15 rfl (by kernel_rfl) fun a=>by kernel_rfl
def gF(N:Nat):Option Bool:=bd? (yB N) fun i=>gl? i.1.length i.1 (gl? i.2.length i.2 (bd? (yO N i.1 i.2) fun n=>gl? i.1.length i.1 (gl? i.2.length i.2 (bd? (aEy N i.1 i.2 1) fun u=>bd? (aN N (u.1,(u.2.1,u.2.2.1))) fun x=>bd? (if? (n.1!=0) (gl? i.1.length i.1 (gl? i.2.length i.2 (gl? n.2.length n.2 (some (true,i.1,i.2,n.2))))) (if? (u.2.2.2!=0) (gl? i.1.length i.1 (gl? i.2.length i.2 (gl? n.2.length n.2 (some (true,i.1,i.2,n.2))))) (if? (x.2!=0) (gl? i.1.length i.1 (gl? i.2.length i.2 (gl? n.2.length n.2 (some (true,i.1,i.2,n.2))))) (if? ((n.2.length:Int)!=2) (gl? i.1.length i.1 (gl? i.2.length i.2 (gl? n.2.length n.2 (some (true,i.1,i.2,n.2))))) (gl? i.1.length i.1 (gl? i.2.length i.2 (gl? n.2.length n.2 (some ((!(x.1==([2,0]:Str))),i.1,i.2,n.2))))))))) fun a=>if? a.1 (some false) (gd? (0<(a.2.1.length:Int)) (gn? a.2.1 (0) fun e=>gd? (2<(a.2.1.length:Int)) (gn? a.2.1 (2) fun f=>gd? (2<=a.2.1.length) (gd? (2<=a.2.1.length) (gd? (a.2.1.length<=a.2.1.length) (gd? (0<(a.2.1.length:Int)) (gn? a.2.1 (0) fun b=>gd? (2<(a.2.1.length:Int)) (gn? a.2.1 (2) fun c=>gn? ([(b.1,(b.2.1,(b.2.2.1,(b.2.2.2.1,(b.2.2.2.2.1,b.2.2.2.2.2))))),(c.1,(c.2.1,(c.2.2.1,(c.2.2.2.1,(c.2.2.2.2.1,c.2.2.2.2.2)))))]) (0) fun d=>gd? ((2+(a.2.1.length-2))<=a.2.1.length) (bd? (uV N (0,((cm (a.2.1.length-2) (df 2 a.2.1)),([]:TA))) (0,([(e.1,(e.2.1,(e.2.2.1,(e.2.2.2.1,(e.2.2.2.2.1,e.2.2.2.2.2))))),(f.1,(f.2.1,(f.2.2.1,(f.2.2.2.1,(f.2.2.2.2.1,f.2.2.2.2.2)))))],([]:TA)))) fun j=>gl? ([(Operand.tmp 86),(Operand.tmp 89)].length) (cx [(b.1,(b.2.1,(b.2.2.1,(b.2.2.2.1,(b.2.2.2.2.1,b.2.2.2.2.2))))),(c.1,(c.2.1,(c.2.2.1,(c.2.2.2.1,(c.2.2.2.2.1,c.2.2.2.2.2)))))] 0 (d.1,(d.2.1,(d.2.2.1,(d.2.2.2.1,(51,d.2.2.2.2.2)))))) (bd? (uW N (0,([(e.1,(e.2.1,(e.2.2.1,(e.2.2.2.1,(e.2.2.2.2.1,e.2.2.2.2.2))))),(f.1,(f.2.1,(f.2.2.1,(f.2.2.2.1,(f.2.2.2.2.1,f.2.2.2.2.2)))))],([]:TA))) (0,((cx [(b.1,(b.2.1,(b.2.2.1,(b.2.2.2.1,(b.2.2.2.2.1,b.2.2.2.2.2))))),(c.1,(c.2.1,(c.2.2.1,(c.2.2.2.1,(c.2.2.2.2.1,c.2.2.2.2.2)))))] 0 (d.1,(d.2.1,(d.2.2.1,(d.2.2.2.1,(51,d.2.2.2.2.2)))))),([]:TA)))) fun k=>gd? ((1+(2-1))<=a.2.1.length) (gl? a.2.2.1.length a.2.2.1 (bd? (aN N (2,((cm (2-1) (df 1 a.2.1)),a.2.2.1))) fun p=>bd? (cM N p.1) fun m=>gd? ((1+(2-1))<=a.2.1.length) (gl? a.2.2.1.length a.2.2.1 (bd? (fI N (2,((cm (2-1) (df 1 a.2.1)),a.2.2.1))) fun q=>gd? ((1+(2-1))<=a.2.1.length) (gl? a.2.2.1.length a.2.2.1 (gd? ((1+(2-1))<=a.2.1.length) (gl? a.2.2.1.length a.2.2.1 (bd? (aAc N [(2,((cm (2-1) (df 1 a.2.1)),a.2.2.1)),(0,([(e.1,(e.2.1,(e.2.2.1,(e.2.2.2.1,(e.2.2.2.2.1,e.2.2.2.2.2))))),(f.1,(f.2.1,(f.2.2.1,(f.2.2.2.1,(f.2.2.2.2.1,f.2.2.2.2.2)))))],([]:TA))),(2,((cm (2-1) (df 1 a.2.1)),a.2.2.1))]) fun h=>gl? ([(Operand.tmp 86),(Operand.tmp 89)].length) (cx [(b.1,(b.2.1,(b.2.2.1,(b.2.2.2.1,(b.2.2.2.2.1,b.2.2.2.2.2))))),(c.1,(c.2.1,(c.2.2.1,(c.2.2.2.1,(c.2.2.2.2.1,c.2.2.2.2.2)))))] 0 (d.1,(d.2.1,(d.2.2.1,(d.2.2.2.1,(51,d.2.2.2.2.2)))))) (bd? (yE N (0,([(e.1,(e.2.1,(e.2.2.1,(e.2.2.2.1,(e.2.2.2.2.1,e.2.2.2.2.2))))),(f.1,(f.2.1,(f.2.2.1,(f.2.2.2.1,(f.2.2.2.2.1,f.2.2.2.2.2)))))],([]:TA))) (0,((cx [(b.1,(b.2.1,(b.2.2.1,(b.2.2.2.1,(b.2.2.2.2.1,b.2.2.2.2.2))))),(c.1,(c.2.1,(c.2.2.1,(c.2.2.2.1,(c.2.2.2.2.1,c.2.2.2.2.2)))))] 0 (d.1,(d.2.1,(d.2.2.1,(d.2.2.2.1,(51,d.2.2.2.2.2)))))),([]:TA)))) fun y=>bd? (if? (j.2.2.2==0) (if? (k.1==0) (if? (p.2==0) (if? (m.2.2.2==0) (if? (q.2==0) (if? (h.1==0) (gl? a.2.1.length a.2.1 (gl? a.2.2.1.length a.2.2.1 (gl? a.2.2.2.length a.2.2.2 (gl? k.2.length k.2 (gl? h.2.1.length h.2.1 (gl? h.2.2.length h.2.2 (gl? a.2.2.1.length a.2.2.1 (gl? ([(Operand.tmp 86),(Operand.tmp 89)].length) (cx [(b.1,(b.2.1,(b.2.2.1,(b.2.2.2.1,(b.2.2.2.2.1,b.2.2.2.2.2))))),(c.1,(c.2.1,(c.2.2.1,(c.2.2.2.1,(c.2.2.2.2.1,c.2.2.2.2.2)))))] 0 (d.1,(d.2.1,(d.2.2.1,(d.2.2.2.1,(51,d.2.2.2.2.2)))))) (some (p.1,(y.2.2.2==24),a.2.1,a.2.2.1,a.2.2.2,(0:Int),(2:Int),((1:Nat):Int),(((2-1):Nat):Int),(0:Int),j.1,j.2.1,j.2.2.1,k.2,m.1,m.2.1,m.2.2.1,q.1,h.2.1,h.2.2,[(e.1,(e.2.1,(e.2.2.1,(e.2.2.2.1,(e.2.2.2.2.1,e.2.2.2.2.2))))),(f.1,(f.2.1,(f.2.2.1,(f.2.2.2.1,(f.2.2.2.2.1,f.2.2.2.2.2)))))],([]:TA),(cx [(b.1,(b.2.1,(b.2.2.1,(b.2.2.2.1,(b.2.2.2.2.1,b.2.2.2.2.2))))),(c.1,(c.2.1,(c.2.2.1,(c.2.2.2.1,(c.2.2.2.2.1,c.2.2.2.2.2)))))] 0 (d.1,(d.2.1,(d.2.2.1,(d.2.2.2.1,(51,d.2.2.2.2.2)))))),([]:TA))))))))))) (gl? a.2.1.length a.2.1 (gl? a.2.2.1.length a.2.2.1 (gl? a.2.2.2.length a.2.2.2 (gl? k.2.length k.2 (gl? h.2.1.length h.2.1 (gl? h.2.2.length h.2.2 (gl? a.2.2.1.length a.2.2.1 (gl? ([(Operand.tmp 86),(Operand.tmp 89)].length) (cx [(b.1,(b.2.1,(b.2.2.1,(b.2.2.2.1,(b.2.2.2.2.1,b.2.2.2.2.2))))),(c.1,(c.2.1,(c.2.2.1,(c.2.2.2.1,(c.2.2.2.2.1,c.2.2.2.2.2)))))] 0 (d.1,(d.2.1,(d.2.2.1,(d.2.2.2.1,(51,d.2.2.2.2.2)))))) (some (p.1,false,a.2.1,a.2.2.1,a.2.2.2,(0:Int),(2:Int),((1:Nat):Int),(((2-1):Nat):Int),(0:Int),j.1,j.2.1,j.2.2.1,k.2,m.1,m.2.1,m.2.2.1,q.1,h.2.1,h.2.2,[(e.1,(e.2.1,(e.2.2.1,(e.2.2.2.1,(e.2.2.2.2.1,e.2.2.2.2.2))))),(f.1,(f.2.1,(f.2.2.1,(f.2.2.2.1,(f.2.2.2.2.1,f.2.2.2.2.2)))))],([]:TA),(cx [(b.1,(b.2.1,(b.2.2.1,(b.2.2.2.1,(b.2.2.2.2.1,b.2.2.2.2.2))))),(c.1,(c.2.1,(c.2.2.1,(c.2.2.2.1,(c.2.2.2.2.1,c.2.2.2.2.2)))))] 0 (d.1,(d.2.1,(d.2.2.1,(d.2.2.2.1,(51,d.2.2.2.2.2)))))),([]:TA)))))))))))) (gl? a.2.1.length a.2.1 (gl? a.2.2.1.length a.2.2.1 (gl? a.2.2.2.length a.2.2.2 (gl? k.2.length k.2 (gl? h.2.1.length h.2.1 (gl? h.2.2.length h.2.2 (gl? a.2.2.1.length a.2.2.1 (gl? ([(Operand.tmp 86),(Operand.tmp 89)].length) (cx [(b.1,(b.2.1,(b.2.2.1,(b.2.2.2.1,(b.2.2.2.2.1,b.2.2.2.2.2))))),(c.1,(c.2.1,(c.2.2.1,(c.2.2.2.1,(c.2.2.2.2.1,c.2.2.2.2.2)))))] 0 (d.1,(d.2.1,(d.2.2.1,(d.2.2.2.1,(51,d.2.2.2.2.2)))))) (some (p.1,false,a.2.1,a.2.2.1,a.2.2.2,(0:Int),(2:Int),((1:Nat):Int),(((2-1):Nat):Int),(0:Int),j.1,j.2.1,j.2.2.1,k.2,m.1,m.2.1,m.2.2.1,q.1,h.2.1,h.2.2,[(e.1,(e.2.1,(e.2.2.1,(e.2.2.2.1,(e.2.2.2.2.1,e.2.2.2.2.2))))),(f.1,(f.2.1,(f.2.2.1,(f.2.2.2.1,(f.2.2.2.2.1,f.2.2.2.2.2)))))],([]:TA),(cx [(b.1,(b.2.1,(b.2.2.1,(b.2.2.2.1,(b.2.2.2.2.1,b.2.2.2.2.2))))),(c.1,(c.2.1,(c.2.2.1,(c.2.2.2.1,(c.2.2.2.2.1,c.2.2.2.2.2)))))] 0 (d.1,(d.2.1,(d.2.2.1,(d.2.2.2.1,(51,d.2.2.2.2.2)))))),([]:TA)))))))))))) (gl? a.2.1.length a.2.1 (gl? a.2.2.1.length a.2.2.1 (gl? a.2.2.2.length a.2.2.2 (gl? k.2.length k.2 (gl? h.2.1.length h.2.1 (gl? h.2.2.length h.2.2 (gl? a.2.2.1.length a.2.2.1 (gl? ([(Operand.tmp 86),(Operand.tmp 89)].length) (cx [(b.1,(b.2.1,(b.2.2.1,(b.2.2.2.1,(b.2.2.2.2.1,b.2.2.2.2.2))))),(c.1,(c.2.1,(c.2.2.1,(c.2.2.2.1,(c.2.2.2.2.1,c.2.2.2.2.2)))))] 0 (d.1,(d.2.1,(d.2.2.1,(d.2.2.2.1,(51,d.2.2.2.2.2)))))) (some (p.1,false,a.2.1,a.2.2.1,a.2.2.2,(0:Int),(2:Int),((1:Nat):Int),(((2-1):Nat):Int),(0:Int),j.1,j.2.1,j.2.2.1,k.2,m.1,m.2.1,m.2.2.1,q.1,h.2.1,h.2.2,[(e.1,(e.2.1,(e.2.2.1,(e.2.2.2.1,(e.2.2.2.2.1,e.2.2.2.2.2))))),(f.1,(f.2.1,(f.2.2.1,(f.2.2.2.1,(f.2.2.2.2.1,f.2.2.2.2.2)))))],([]:TA),(cx [(b.1,(b.2.1,(b.2.2.1,(b.2.2.2.1,(b.2.2.2.2.1,b.2.2.2.2.2))))),(c.1,(c.2.1,(c.2.2.1,(c.2.2.2.1,(c.2.2.2.2.1,c.2.2.2.2.2)))))] 0 (d.1,(d.2.1,(d.2.2.1,(d.2.2.2.1,(51,d.2.2.2.2.2)))))),([]:TA)))))))))))) (gl? a.2.1.length a.2.1 (gl? a.2.2.1.length a.2.2.1 (gl? a.2.2.2.length a.2.2.2 (gl? k.2.length k.2 (gl? h.2.1.length h.2.1 (gl? h.2.2.length h.2.2 (gl? a.2.2.1.length a.2.2.1 (gl? ([(Operand.tmp 86),(Operand.tmp 89)].length) (cx [(b.1,(b.2.1,(b.2.2.1,(b.2.2.2.1,(b.2.2.2.2.1,b.2.2.2.2.2))))),(c.1,(c.2.1,(c.2.2.1,(c.2.2.2.1,(c.2.2.2.2.1,c.2.2.2.2.2)))))] 0 (d.1,(d.2.1,(d.2.2.1,(d.2.2.2.1,(51,d.2.2.2.2.2)))))) (some (p.1,false,a.2.1,a.2.2.1,a.2.2.2,(0:Int),(2:Int),((1:Nat):Int),(((2-1):Nat):Int),(0:Int),j.1,j.2.1,j.2.2.1,k.2,m.1,m.2.1,m.2.2.1,q.1,h.2.1,h.2.2,[(e.1,(e.2.1,(e.2.2.1,(e.2.2.2.1,(e.2.2.2.2.1,e.2.2.2.2.2))))),(f.1,(f.2.1,(f.2.2.1,(f.2.2.2.1,(f.2.2.2.2.1,f.2.2.2.2.2)))))],([]:TA),(cx [(b.1,(b.2.1,(b.2.2.1,(b.2.2.2.1,(b.2.2.2.2.1,b.2.2.2.2.2))))),(c.1,(c.2.1,(c.2.2.1,(c.2.2.2.1,(c.2.2.2.2.1,c.2.2.2.2.2)))))] 0 (d.1,(d.2.1,(d.2.2.1,(d.2.2.2.1,(51,d.2.2.2.2.2)))))),([]:TA)))))))))))) (gl? a.2.1.length a.2.1 (gl? a.2.2.1.length a.2.2.1 (gl? a.2.2.2.length a.2.2.2 (gl? k.2.length k.2 (gl? h.2.1.length h.2.1 (gl? h.2.2.length h.2.2 (gl? a.2.2.1.length a.2.2.1 (gl? ([(Operand.tmp 86),(Operand.tmp 89)].length) (cx [(b.1,(b.2.1,(b.2.2.1,(b.2.2.2.1,(b.2.2.2.2.1,b.2.2.2.2.2))))),(c.1,(c.2.1,(c.2.2.1,(c.2.2.2.1,(c.2.2.2.2.1,c.2.2.2.2.2)))))] 0 (d.1,(d.2.1,(d.2.2.1,(d.2.2.2.1,(51,d.2.2.2.2.2)))))) (some (p.1,false,a.2.1,a.2.2.1,a.2.2.2,(0:Int),(2:Int),((1:Nat):Int),(((2-1):Nat):Int),(0:Int),j.1,j.2.1,j.2.2.1,k.2,m.1,m.2.1,m.2.2.1,q.1,h.2.1,h.2.2,[(e.1,(e.2.1,(e.2.2.1,(e.2.2.2.1,(e.2.2.2.2.1,e.2.2.2.2.2))))),(f.1,(f.2.1,(f.2.2.1,(f.2.2.2.1,(f.2.2.2.2.1,f.2.2.2.2.2)))))],([]:TA),(cx [(b.1,(b.2.1,(b.2.2.1,(b.2.2.2.1,(b.2.2.2.2.1,b.2.2.2.2.2))))),(c.1,(c.2.1,(c.2.2.1,(c.2.2.2.1,(c.2.2.2.2.1,c.2.2.2.2.2)))))] 0 (d.1,(d.2.1,(d.2.2.1,(d.2.2.2.1,(51,d.2.2.2.2.2)))))),([]:TA)))))))))))) (gl? a.2.1.length a.2.1 (gl? a.2.2.1.length a.2.2.1 (gl? a.2.2.2.length a.2.2.2 (gl? k.2.length k.2 (gl? h.2.1.length h.2.1 (gl? h.2.2.length h.2.2 (gl? a.2.2.1.length a.2.2.1 (gl? ([(Operand.tmp 86),(Operand.tmp 89)].length) (cx [(b.1,(b.2.1,(b.2.2.1,(b.2.2.2.1,(b.2.2.2.2.1,b.2.2.2.2.2))))),(c.1,(c.2.1,(c.2.2.1,(c.2.2.2.1,(c.2.2.2.2.1,c.2.2.2.2.2)))))] 0 (d.1,(d.2.1,(d.2.2.1,(d.2.2.2.1,(51,d.2.2.2.2.2)))))) (some (p.1,false,a.2.1,a.2.2.1,a.2.2.2,(0:Int),(2:Int),((1:Nat):Int),(((2-1):Nat):Int),(0:Int),j.1,j.2.1,j.2.2.1,k.2,m.1,m.2.1,m.2.2.1,q.1,h.2.1,h.2.2,[(e.1,(e.2.1,(e.2.2.1,(e.2.2.2.1,(e.2.2.2.2.1,e.2.2.2.2.2))))),(f.1,(f.2.1,(f.2.2.1,(f.2.2.2.1,(f.2.2.2.2.1,f.2.2.2.2.2)))))],([]:TA),(cx [(b.1,(b.2.1,(b.2.2.1,(b.2.2.2.1,(b.2.2.2.2.1,b.2.2.2.2.2))))),(c.1,(c.2.1,(c.2.2.1,(c.2.2.2.1,(c.2.2.2.2.1,c.2.2.2.2.2)))))] 0 (d.1,(d.2.1,(d.2.2.1,(d.2.2.2.1,(51,d.2.2.2.2.2)))))),([]:TA)))))))))))) fun g=>bd? (if? g.2.1 (gd? (0<(g.2.2.2.2.1.length:Int)) (gn? g.2.2.2.2.1 (0) fun v=>gl? g.2.2.2.2.2.2.2.2.2.2.2.2.2.2.2.2.2.2.2.2.1.length g.2.2.2.2.2.2.2.2.2.2.2.2.2.2.2.2.2.2.2.2.1 (gl? g.2.2.2.2.2.2.2.2.2.2.2.2.2.2.2.2.2.2.2.2.2.1.length g.2.2.2.2.2.2.2.2.2.2.2.2.2.2.2.2.2.2.2.2.2.1 (bd? (dK N (v.1,(v.2.1,v.2.2)) (g.2.2.2.2.2.1,(g.2.2.2.2.2.2.2.2.2.2.2.2.2.2.2.2.2.2.2.2.1,g.2.2.2.2.2.2.2.2.2.2.2.2.2.2.2.2.2.2.2.2.2.1))) fun z=>if? z (gd? (1<(g.2.2.2.2.1.length:Int)) (gn? g.2.2.2.2.1 (1) fun w=>gd? ((g.2.2.2.2.2.2.2.1.toNat+g.2.2.2.2.2.2.2.2.1.toNat)<=g.2.2.1.length) (gl? g.2.2.2.1.length g.2.2.2.1 (bd? (dK N (w.1,(w.2.1,w.2.2)) (g.2.2.2.2.2.2.1,((cm g.2.2.2.2.2.2.2.2.1.toNat (df g.2.2.2.2.2.2.2.1.toNat g.2.2.1)),g.2.2.2.1))) fun aa=>if? aa (gd? (1<=g.2.2.1.length) (gd? ((0+1)<=g.2.2.1.length) (bd? (dK N (g.2.2.2.2.2.2.2.2.2.2.1,(g.2.2.2.2.2.2.2.2.2.2.2.1,g.2.2.2.2.2.2.2.2.2.2.2.2.1)) (0,((cm 1 (df 0 g.2.2.1)),([]:TA)))) fun ab=>if? ab (if? ((g.2.2.2.2.2.2.2.2.2.2.2.2.2.1.length:Int)==1) (gd? (0<(g.2.2.2.2.2.2.2.2.2.2.2.2.2.1.length:Int)) (gn? g.2.2.2.2.2.2.2.2.2.2.2.2.2.1 (0) fun o=>gd? (0<(g.2.2.1.length:Int)) (gn? g.2.2.1 (0) fun r=>gd? (0<(g.2.2.2.2.2.2.2.2.2.2.2.2.2.2.2.2.2.2.2.2.2.2.1.length:Int)) (gn? g.2.2.2.2.2.2.2.2.2.2.2.2.2.2.2.2.2.2.2.2.2.2.1 (0) fun t=>if? (oU [(Sh.s 1),(Sh.s 1),(Sh.s 1),(Sh.s 1),(Sh.s 1),(Sh.s 1),(Sh.s 1),(Sh.s 1),(Sh.s 1),(Sh.s 1),(Sh.s 1)] (o.1.1==r.1) (oU [(Sh.s 1),(Sh.s 1),(Sh.s 1),(Sh.s 1),(Sh.s 1),(Sh.s 1),(Sh.s 1),(Sh.s 1),(Sh.s 1),(Sh.s 1)] (o.1.2.1==r.2.1) (oU [(Sh.s 1),(Sh.s 1),(Sh.s 1),(Sh.s 1),(Sh.s 1),(Sh.s 1),(Sh.s 1),(Sh.s 1),(Sh.s 1)] (o.1.2.2.1==r.2.2.1) (oU [(Sh.s 1),(Sh.s 1),(Sh.s 1),(Sh.s 1),(Sh.s 1),(Sh.s 1),(Sh.s 1),(Sh.s 1)] (o.1.2.2.2.1==r.2.2.2.1) (oU [(Sh.s 1),(Sh.s 1),(Sh.s 1),(Sh.s 1),(Sh.s 1),(Sh.s 1),(Sh.s 1)] (o.1.2.2.2.2.1==r.2.2.2.2.1) (oU [(Sh.s 1),(Sh.s 1),(Sh.s 1),(Sh.s 1),(Sh.s 1),(Sh.s 1)] (o.1.2.2.2.2.2==r.2.2.2.2.2) (oU [(Sh.s 1),(Sh.s 1),(Sh.s 1),(Sh.s 1),(Sh.s 1)] (o.2.1==t.1) (oU [(Sh.s 1),(Sh.s 1),(Sh.s 1),(Sh.s 1)] (o.2.2.1==t.2.1) (oU [(Sh.s 1),(Sh.s 1),(Sh.s 1)] (o.2.2.2.1==t.2.2.1) (oU [(Sh.s 1),(Sh.s 1)] (o.2.2.2.2.1==t.2.2.2.1) (oU [(Sh.s 1)] (o.2.2.2.2.2.1==t.2.2.2.2.1) (oU ([]:(List Sh)) (o.2.2.2.2.2.2==t.2.2.2.2.2) true)))))))))))) (gd? ((g.2.2.2.2.2.2.2.1.toNat+g.2.2.2.2.2.2.2.2.1.toNat)<=g.2.2.1.length) (gl? g.2.2.2.1.length g.2.2.2.1 (bd? (dK N (g.2.2.2.2.2.2.2.2.2.2.2.2.2.2.1,(g.2.2.2.2.2.2.2.2.2.2.2.2.2.2.2.1,g.2.2.2.2.2.2.2.2.2.2.2.2.2.2.2.2.1)) (g.2.2.2.2.2.2.1,((cm g.2.2.2.2.2.2.2.2.1.toNat (df g.2.2.2.2.2.2.2.1.toNat g.2.2.1)),g.2.2.2.1))) fun ac=>if? ac (bd? (gE N 196 [g.1]) fun ad=>if? (g.2.2.2.2.2.2.2.2.2.2.2.2.2.2.2.2.2.1.l==ad.l) (gl? g.2.2.2.2.2.2.2.2.2.2.2.2.2.2.2.2.2.2.1.length g.2.2.2.2.2.2.2.2.2.2.2.2.2.2.2.2.2.2.1 (gl? g.2.2.1.length g.2.2.1 (bd? (nY N g.2.2.2.2.2.2.2.2.2.2.2.2.2.2.2.2.2.2.1 g.2.2.1) fun ae=>if? ae (gl? g.2.2.2.2.2.2.2.2.2.2.2.2.2.2.2.2.2.2.2.1.length g.2.2.2.2.2.2.2.2.2.2.2.2.2.2.2.2.2.2.2.1 (gl? g.2.2.2.1.length g.2.2.2.1 (bd? (gJ N g.2.2.2.2.2.2.2.2.2.2.2.2.2.2.2.2.2.2.2.1 g.2.2.2.1) fun af=>some af))) (some false)))) (some false)) (some false)))) (some false))))) (some false)) (some false)))) (some false))))) (some false))))) (some false)) fun ag=>some ag)))))))))))))))))))))))
abbrev aKs(N:Nat):Sig:=⟨10,⟨[],[],[]⟩,[⟨[(0,dd .b)],[],[]⟩],gF N⟩
theorem aNp(N:Nat):aD Tryz.prog (aKs N):=xf N (tc (aIe N) (tc (aIp N) (tc (aR9 N) (tc (jY N) (tc (aEv N) (tc (aFr N) (tc (vZ N) (tc (aEz N) (tc (aL8 N) (tc (aIx N) (tc (aF0 N) (tc (aGy N) (tc (aD9 N) (tc (wF N) tn)))))))))))))) [] [⟨21,true,⟨[(0,dd .b)],[],[]⟩⟩,⟨20,true,⟨[(1,.slw (.O 0) tB 0),(2,.slw (.O 1) tA 0),(3,.slw (.O 2) tD 0),(9,.ptr (.O 3) 0),(10,.ptr (.O 4) 0),(12,.ptr (.O 5) 0),(13,.ptr (.O 6) 0),(15,.slw (.O 7) tL 0),(17,dd .s),(19,.ptr (.O 8) 0),(21,.apt (.O 9) 0),(23,.slw (.O 10) tB 0),(24,.slw (.O 11) tA 0),(28,dd .b)],[],[some (.row false tB []),some (.row false tA []),some (.row true tD []),some (.box [dd tC,.slw (.O 12) tB 0,.slw (.O 13) tA 0]),some (.box [dd tC,.sl (.O 0) tB 0 0,.slw (.O 1) tA 0]),some (.box [dd tC,.slw (.O 14) tB 0,.slw (.O 15) tA 0]),some (.box [dd tC,dd (.sl tB),dd (.sl tA)]),some (.row true tL []),some (.box [dd tC,dd (.sl tB),dd (.sl tA)]),some (.arr true 16 .u8 (Arr.zero 16)),some (.row true tB []),some (.row true tA []),some (.row false tB []),some (.row true tA []),some (.row false tB []),some (.row true tA [])]⟩⟩,⟨6,true,⟨[(1,.slw (.O 0) tB 0),(2,.slw (.O 1) tA 0),(3,.slw (.O 2) tD 0),(68,dd .b)],[],[some (.row false tB []),some (.row false tA []),some (.row true tD [])]⟩⟩] 0 Tryz.func10 rfl (by kernel_rfl) fun a=>by kernel_rfl
def dJ(N:Nat)(d e:TF)(j:Str):Option Bool:=bd? (bd? (eV N (d.1,(d.2.1,d.2.2))) fun q=>if? (!q) (some (j,true,d.1,d.2.1,d.2.2,e.1,e.2.1,e.2.2)) (bd? (eV N (e.1,(e.2.1,e.2.2))) fun r=>if? (!r) (some (j,true,d.1,d.2.1,d.2.2,e.1,e.2.1,e.2.2)) (some (j,(decide ((j.length:Int)>2000)),d.1,d.2.1,d.2.2,e.1,e.2.1,e.2.2)))) fun b=>if? b.2.1 (bd? (gF N) fun s=>some s) (bd? (cM N b.1) fun f=>jn? (if? (f.2.2.2==0) (bd? (aN N (f.1,(f.2.1,f.2.2.1))) fun p=>bd? (if? (p.2!=0) (some (true,b.2.2.1,b.2.2.2.1,b.2.2.2.2.1,b.2.2.2.2.2.1,b.2.2.2.2.2.2.1,b.2.2.2.2.2.2.2)) (if? (!(p.1==b.1)) (some (true,b.2.2.1,b.2.2.2.1,b.2.2.2.2.1,b.2.2.2.2.2.1,b.2.2.2.2.2.2.1,b.2.2.2.2.2.2.2)) (bd? (aT N (f.1,(f.2.1,f.2.2.1))) fun t=>some ((t !=0),b.2.2.1,b.2.2.2.1,b.2.2.2.2.1,b.2.2.2.2.2.1,b.2.2.2.2.2.2.1,b.2.2.2.2.2.2.2)))) fun g=>if? g.1 (vV (some false)) (some (.inr (g.2.1,g.2.2.1,g.2.2.2.1,g.2.2.2.2.1,g.2.2.2.2.2.1,g.2.2.2.2.2.2)))) (some (.inr (b.2.2.1,b.2.2.2.1,b.2.2.2.2.1,b.2.2.2.2.2.1,b.2.2.2.2.2.2.1,b.2.2.2.2.2.2.2)))) fun c=>bd? (aN N (c.1,(c.2.1,c.2.2.1))) fun h=>bd? (aN N (c.2.2.2.1,(c.2.2.2.2.1,c.2.2.2.2.2))) fun i=>bd? (if? (h.2!=0) (some (h.1,h.2,i.1,i.2,true,c.1,c.2.1,c.2.2.1,c.2.2.2.1,c.2.2.2.2.1,c.2.2.2.2.2)) (some (h.1,h.2,i.1,i.2,(i.2!=0),c.1,c.2.1,c.2.2.1,c.2.2.2.1,c.2.2.2.2.1,c.2.2.2.2.2))) fun a=>if? a.2.2.2.2.1 (bd? (bd? (gF N) fun u=>if? u (bd? (aT N (a.2.2.2.2.2.1,(a.2.2.2.2.2.2.1,a.2.2.2.2.2.2.2.1))) fun v=>if? ((a.2.1==0)==(v==0)) (bd? (aT N (a.2.2.2.2.2.2.2.2.1,(a.2.2.2.2.2.2.2.2.2.1,a.2.2.2.2.2.2.2.2.2.2))) fun w=>some ((a.2.2.2.1==0)==(w==0))) (some false)) (some false)) fun x=>some x) (bd? (cM N a.1) fun k=>bd? (fI N (a.2.2.2.2.2.1,(a.2.2.2.2.2.2.1,a.2.2.2.2.2.2.2.1))) fun m=>bd? (fI N (a.2.2.2.2.2.2.2.2.1,(a.2.2.2.2.2.2.2.2.2.1,a.2.2.2.2.2.2.2.2.2.2))) fun n=>bd? (dK N (a.2.2.2.2.2.1,(a.2.2.2.2.2.2.1,a.2.2.2.2.2.2.2.1)) (a.2.2.2.2.2.2.2.2.1,(a.2.2.2.2.2.2.2.2.2.1,a.2.2.2.2.2.2.2.2.2.2))) fun o=>bd? (bd? (gF N) fun y=>if? y (if? (k.2.2.2==0) (bd? (dK N (k.1,(k.2.1,k.2.2.1)) (a.2.2.2.2.2.1,(a.2.2.2.2.2.2.1,a.2.2.2.2.2.2.2.1))) fun z=>if? z (if? (m.2==0) (if? (n.2==0) (if? (o==(a.1==a.2.2.1)) (if? o (if? (m.1.l==n.1.l) (some true) (if? (!o) (if? (!(m.1.l==n.1.l)) (some true) (bd? (gE N 196 [a.1]) fun aa=>bd? (gE N 196 [a.2.2.1]) fun ab=>some (aa.l==ab.l))) (some false))) (if? (!o) (if? (!(m.1.l==n.1.l)) (some true) (bd? (gE N 196 [a.1]) fun ac=>bd? (gE N 196 [a.2.2.1]) fun ad=>some (ac.l==ad.l))) (some false))) (some false)) (some false)) (some false)) (some false)) (some false)) (some false)) fun ae=>some ae))
abbrev vT(N:Nat):Sig:=⟨7,⟨[(0,dd tD),(1,dd tD),(2,dd .s)],[],[]⟩,[⟨[(0,dd .b)],[],[]⟩],dJ N⟩
theorem vN(N:Nat):aD Tryz.prog (vT N):=xf N (tc (aTv N) (tc (aNp N) (tc (vZ N) (tc (jY N) (tc (lO N) (tc (aEz N) (tc (aF0 N) (tc (aGy N) tn)))))))) [] [⟨19,true,⟨[(6,dd .b)],[],[]⟩⟩,⟨14,true,⟨[(6,dd .b)],[],[]⟩⟩,⟨13,true,⟨[(3,.ptr (.O 0) 0),(4,.ptr (.O 1) 0),(11,dd .s),(12,dd tC),(13,dd .s),(14,dd tC),(75,dd .b)],[],[some (.box [dd tC,dd (.sl tB),dd (.sl tA)]),some (.box [dd tC,dd (.sl tB),dd (.sl tA)])]⟩⟩,⟨5,false,⟨[(3,.ptr (.O 0) 0),(4,.ptr (.O 1) 0)],[],[some (.box [dd tC,dd (.sl tB),dd (.sl tA)]),some (.box [dd tC,dd (.sl tB),dd (.sl tA)])]⟩⟩,⟨8,true,⟨[(3,.ptr (.O 0) 0),(4,.ptr (.O 1) 0),(59,dd .b)],[],[some (.box [dd tC,dd (.sl tB),dd (.sl tA)]),some (.box [dd tC,dd (.sl tB),dd (.sl tA)])]⟩⟩,⟨2,true,⟨[(2,dd .s),(3,.ptr (.O 0) 0),(4,.ptr (.O 1) 0),(34,dd .b)],[],[some (.box [dd tC,dd (.sl tB),dd (.sl tA)]),some (.box [dd tC,dd (.sl tB),dd (.sl tA)])]⟩⟩] 0 Tryz.func7 rfl (by kernel_rfl) fun a=>by kernel_rfl
end Go.Proofs.Tryz

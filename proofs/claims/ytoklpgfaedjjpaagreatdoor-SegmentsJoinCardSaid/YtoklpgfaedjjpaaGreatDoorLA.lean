/- Texts of this claim. -/
import Derived.Test.YtoklpgfaedjjpaaGreatDoorProg
import Derived.Test.YtoklpgfaedjjpaaGreatDoorYB
import Derived.Shelf.Lays
import Derived.Shelf.Lays2
import Derived.Shelf.Sort.Plain
import Derived.Shelf.Slices.In.SortNone
import Derived.Sort.OwnSortedInts
import Derived.Shelf.Slices.CompactI
import Derived.Shelf.Strings.Builder1
import Derived.Maps.AppendAt
open Array renaming ext'->ac7,getElem?_eq_none->acm,getElem?_eq_some_iff->aad,getElem?_modify->acu,getElem?_toList->aaj
open Go.IntKind renaming bits->abP,wrap->δ
open Int renaming tdiv->ac2,tmod->aa4
open List renaming drop->aaD,ext_getElem?->abN,getElem?_eq_getElem->ν,getElem?_eq_none->aay,getElem?_map->aac,getElem?_take_of_lt->aaH,length_append->ε,length_eq_zero_iff->aas,length_map->κ,length_take->aao,map_append->aaw,map_cons->aaM,map_eq_nil_iff->abQ,mem_cons->ω,mem_cons_of_mem->aab,mem_cons_self->aap,mem_singleton->aai,pairwise_cons->aax,replicate->aae,set->aaO,take->aaq
open Nat renaming le_add_right->abJ,le_refl->me,mul_one->aaN,zero_add->aan,zero_le->aba,zero_mul->ac3
open Option renaming map_eq_some_iff->ι
set_option linter.all false
set_option maxRecDepth 8000
namespace Go.Proofs.Tryz
open Go.Eng Go.RowKit
abbrev tC:Ty:=.i .i64
abbrev tJ:Ty:=.w (.p .b (.p .s .s))
abbrev tE:Ty:=.w (.p tC tJ)
abbrev tA:Ty:=.w (.p tC (.p tC (.p tC (.p tC (.p tC (.p tC (.p tC (.w (.sl tE)))))))))
abbrev TM:Type:=Bool×(cc×cc)
abbrev TE:Type:=List (Int×TM)
abbrev TH:Type:=Int×(Int×(Int×(Int×(Int×(Int×(Int×TE))))))
abbrev TA:Type:=List TH
abbrev tB:Ty:=.w (.p tC (.p tC (.p tC (.p tC (.p tC tC)))))
abbrev TN:Type:=Int×Int
abbrev tg:Type:=Int×TN
abbrev TB:Type:=Int×(Int×(Int×tg))
abbrev TC:Type:=List Int
abbrev tD:Ty:=.w (.p tC (.p (.sl tB) (.sl tA)))
abbrev TG:Type:=List TB
abbrev TF:Type:=Int×(TG×TA)
abbrev tI:Ty:=.i .u32
abbrev tF:Ty:=.sl tI
abbrev tK:Ty:=.i .u64
abbrev tG:Ty:=.w (.p (.ar 8 .u32) (.p (.ar 64 .u8) tK))
abbrev TI:Type:=(bw 8)×((bw 64)×Int)
abbrev tH:Ty:=.sl (.i .u8)
abbrev TJ:Type:=List (cc×Bool)
abbrev TK:Type:=List cc
abbrev TL:Type:=List TF
abbrev TO:Type:=Int×(TG×(TA×Int))
abbrev TP:Type:=Int×(Int×(Int×(Int×(Int×(Int×(Int×(TE×Int)))))))
abbrev TQ:Type:=Int×(TC×(Int×(Int×(TC×TC))))
abbrev TR:Type:=List (TB×TB)
abbrev tL:Ty:=.w (.p tB tB)
abbrev TS:Type:=Int×TA
abbrev TT:Type:=Int×TG
abbrev TU:Type:=List (TN×TB)
abbrev TV:Type:=List TA
abbrev tM:Ty:=.sl (.sl tA)
abbrev TW:Type:=Int×TL
abbrev tN:Ty:=.ar 64 .u32
abbrev TX:Type:=TC×(Int×((bw 64)×(bw 64)))
abbrev TY:Type:=Int×(Int×TC)
abbrev TZ:Type:=Int×(Int×TK)
abbrev tO:Ty:=.w (.p tC tC)
abbrev ve:Type:=Int×TF
abbrev lM:Value:=.iface 215 (.agg #[])
def pW(N:Nat)(p1:Int):Option Int:=some p1
abbrev pN(N:Nat):br:=⟨97,⟨[(0,.ptr (.B 0) 0)],[some (.box [dd tC])],[]⟩,[⟨[],[some (.box [dd tC])],[]⟩],pW N⟩
theorem xK(N:Nat):yE Tryz.prog .returning .returning (pN N):=Mz N (T:=[]) trivial [] [] (fn:=Tryz.f97) (pv:=.nilIface) Tryz.func97 rfl rfl rfl rfl rfl rfl rfl (by rw[Tryz.ntmps97];decide) (by kernel_rfl) YK (by rw[Tryz.ntmps97];decide) (fun a=>by kernel_rfl)
def eI(N:Nat)(p1:Int):Option Int:=some 11
abbrev pR(N:Nat):br:=⟨97,⟨[(0,.ptr (.B 0) 0)],[some (.box [dd tC])],[]⟩,[⟨[],[some (.box [dd tC])],[]⟩],eI N⟩
theorem xB(N:Nat):yE Tryz.prog (.panicking [{v:=lM,recovered:=false}]) (.panicking [{v:=lM,recovered:=true}]) (pR N):=Mz N (T:=[]) trivial [] [] (fn:=Tryz.f97) (pv:=lM) Tryz.func97 rfl rfl rfl rfl rfl rfl rfl (by rw[Tryz.ntmps97];decide) (by kernel_rfl) bBp (by rw[Tryz.ntmps97];decide) (fun a=>by kernel_rfl)
set_option maxRecDepth 8000
set_option synthInstance.maxSize 100000000
set_option synthInstance.maxHeartbeats 4000000
def pL(N:Nat)(a:cc):Option Bool:=bc (bf (a==([]:cc)) (some true) (aZ a (0) fun b=>some ((b.toNat:Int)!=0))) fun c=>some c
abbrev S9(N:Nat):br:=⟨195,⟨[(0,dd .s)],[],[]⟩,[⟨[(0,dd .b)],[],[]⟩],pL N⟩
theorem ZJ(N:Nat):aF Tryz.prog (S9 N):=xf N tn [] [⟨1,true,⟨[(2,dd .b)],[],[]⟩⟩] 0 Tryz.func195 rfl (by kernel_rfl) fun a=>by kernel_rfl
def mL(rec2:TC->Option TC)(b:TC):Option TC:=bc (bf (decide ((b.length:Int)>0)) (ck .i64 ((b.length:Int)-1) (aZ b ((b.length:Int)-1) fun c=>some (b,(c==0)))) (some (b,false))) fun a=>bf a.2 (ck .i64 ((a.1.length:Int)-1) (az (0<=((a.1.length:Int)-1)) (az (0<=((a.1.length:Int)-1).toNat) (az (((a.1.length:Int)-1).toNat<=a.1.length) (rec2 (aaq (((a.1.length:Int)-1).toNat-0) (aaD 0 a.1))))))) (some a.1)
def mF:Nat->TC->Option TC:=aN [tF] (mL)
def bD(N:Nat)(a:TC):Option TC:=mF N a
abbrev aGq(N:Nat):br:=⟨217,⟨[(0,dd tF)],[],[]⟩,[⟨[(0,dd tF)],[],[]⟩],bD N⟩
theorem gE(N:Nat):aF Tryz.prog (aGq N):=xf N tn [] [⟨4,true,⟨[(0,dd tF),(14,dd .b)],[],[]⟩⟩,⟨2,false,⟨[(0,dd tF)],[],[]⟩⟩] 0 Tryz.func217 rfl (by kernel_rfl) fun a=>by kernel_rfl
def wA(rec2:cc->Int->TC->Option TC)(h:cc->Int->Int->TC->Int->Int->TC->Option TC)(e:cc)(d b:Int)(f:TC)(g c:Int)(a:TC):Option TC:=bf (decide (c<g)) (aZ f c fun i=>ck .i64 (c+1) (aw a.length a (h e d (bits .or .u32 (δ .u32 (b*(2^8))) (δ .u32 i)) f g (c+1) a))) (aw a.length a (az (((a.length+[b].length)*4)<=140737488355328) (ck .i64 (d-4) (aw ((a++[b]).length) (a++[b]) (rec2 e (d-4) (a++[b]))))))
def vT(rec2:cc->Int->TC->Option TC):Nat->cc->Int->Int->TC->Int->Int->TC->Option TC:=aN [.s,tC,tI,tH,tC,tC,tF] (wA rec2)
def vZ(N:Nat)(rec2:cc->Int->TC->Option TC)(c:cc)(a:Int)(b:TC):Option TC:=bf (decide (a>0)) (ck .i64 (a-4) (az (0<=a) (az (0<=(Max.max 0 (a-4))) (az ((Max.max 0 (a-4)).toNat<=a.toNat) (az (a.toNat<=c.length) (aw b.length b (vT rec2 N c a 0 (cJ (aaq (a.toNat-(Max.max 0 (a-4)).toNat) (aaD (Max.max 0 (a-4)).toNat c))) (((cJ (aaq (a.toNat-(Max.max 0 (a-4)).toNat) (aaD (Max.max 0 (a-4)).toNat c))).length:Nat):Int) 0 b))))))) (aw b.length b (bc (bD N b) fun d=>some d))
def qC(N:Nat):Nat->cc->Int->TC->Option TC:=aN [.s,tC,tF] (vZ N)
def eU(N:Nat)(a:cc):Option TC:=qC N N a (a.length:Int) ([]:TC)
abbrev SZ(N:Nat):br:=⟨207,⟨[(0,dd .s)],[],[]⟩,[⟨[(0,dd tF)],[],[]⟩],eU N⟩
theorem rN(N:Nat):aF Tryz.prog (SZ N):=xf N (tc (gE N) tn) [35] [⟨11,false,⟨[(0,dd .s),(3,.slw (.O 0) tI 0),(4,dd tC),(5,dd tI),(20,dd tH),(21,dd tC),(22,dd tC)],[],[some (.row true tI [])]⟩⟩,⟨4,false,⟨[(0,dd .s),(3,.slw (.O 0) tI 0),(4,dd tC)],[],[some (.row true tI [])]⟩⟩] 0 Tryz.func207 rfl (by kernel_rfl) fun a=>by kernel_rfl
def lW(N:Nat)(a:Int):Option Bool:=some (a !=a)
abbrev UF(N:Nat):br:=⟨168,⟨[(0,dd tC)],[],[]⟩,[⟨[(0,dd .b)],[],[]⟩],lW N⟩
theorem SC(N:Nat):aF Tryz.prog (UF N):=xf N tn [] [] 0 Tryz.func168 rfl (by kernel_rfl) fun a=>by kernel_rfl
def cX(N:Nat)(a b:Int):Option Int:=bc (lW N a) fun d=>bc (lW N b) fun c=>bf d (bf c (some (0)) (some (-1))) (bf c (some (1)) (bf (decide (a<b)) (some (-1)) (bf (decide (a>b)) (some (1)) (some (0)))))
abbrev Xl(N:Nat):br:=⟨142,⟨[(0,dd tC),(1,dd tC)],[],[]⟩,[⟨[(0,dd tC)],[],[]⟩],cX N⟩
theorem nW(N:Nat):aF Tryz.prog (Xl N):=xf N (tc (SC N) tn) [] [] 0 Tryz.func142 rfl (by kernel_rfl) fun a=>by kernel_rfl
def mG(N:Nat)(a:Int):Option Bool:=some (a !=a)
abbrev UZ(N:Nat):br:=⟨228,⟨[(0,dd tI)],[],[]⟩,[⟨[(0,dd .b)],[],[]⟩],mG N⟩
theorem XR(N:Nat):aF Tryz.prog (UZ N):=xf N tn [] [] 0 Tryz.func228 rfl (by kernel_rfl) fun a=>by kernel_rfl
def jY(N:Nat)(a b:Int):Option Int:=bc (mG N a) fun d=>bc (mG N b) fun c=>bf d (bf c (some (0)) (some (-1))) (bf c (some (1)) (bf (decide (a<b)) (some (-1)) (bf (decide (a>b)) (some (1)) (some (0)))))
abbrev zI(N:Nat):br:=⟨225,⟨[(0,dd tI),(1,dd tI)],[],[]⟩,[⟨[(0,dd tC)],[],[]⟩],jY N⟩
theorem zF(N:Nat):aF Tryz.prog (zI N):=xf N (tc (XR N) tn) [] [] 0 Tryz.func225 rfl (by kernel_rfl) fun a=>by kernel_rfl
def jB(N:Nat)(rec4:TC->TC->Int->Option Int)(b c:TC)(a:Int):Option Int:=bf (decide (a≥0)) (aZ b a fun e=>aZ c a fun f=>bc (jY N e f) fun d=>bf (d !=0) (some d) (ck .i64 (a-1) (rec4 b c (a-1)))) (some (0))
def jC(N:Nat):Nat->TC->TC->Int->Option Int:=aN [tF,tF,tC] (jB N)
def cV(N:Nat)(a b:TC):Option Int:=bc (cX N (a.length:Int) (b.length:Int)) fun c=>bf (c !=0) (some c) (ck .i64 ((a.length:Int)-1) (jC N N a b ((a.length:Int)-1)))
abbrev ZV(N:Nat):br:=⟨215,⟨[(0,dd tF),(1,dd tF)],[],[]⟩,[⟨[(0,dd tC)],[],[]⟩],cV N⟩
theorem lD(N:Nat):aF Tryz.prog (ZV N):=xf N (tc (nW N) (tc (zF N) tn)) [] [⟨7,false,⟨[(0,dd tF),(1,dd tF),(6,dd tC)],[],[]⟩⟩] 0 Tryz.func215 rfl (by kernel_rfl) fun a=>by kernel_rfl
def lB(N:Nat)(rec3:TC->Int->Int->Int->TC->Option (TC×Int))(f:TC)(c d a:Int)(b:TC):Option (TC×Int):=bf (decide (a≥0)) (aZ f a fun e=>az ((δ .u64 c)≠0) (az ((δ .u64 c)≠0) (az (0<=a) (az (a<(b.length:Int)) (cr b a.toNat fun h=>ck .i64 (a-1) (aw b.length (aaO b a.toNat (δ .u32 (δ .u64 (ac2 (bits .or .u64 (δ .u64 (d*(2^32))) (δ .u64 e)) (δ .u64 c))))) (rec3 f c (aa4 (bits .or .u64 (δ .u64 (d*(2^32))) (δ .u64 e)) (δ .u64 c)) (a-1) (aaO b a.toNat (δ .u32 (δ .u64 (ac2 (bits .or .u64 (δ .u64 (d*(2^32))) (δ .u64 e)) (δ .u64 c)))))))))))) (aw b.length b (bc (bD N b) fun g=>some (g,(δ .u32 d))))
def kY(N:Nat):Nat->TC->Int->Int->Int->TC->Option (TC×Int):=aN [tF,tI,tK,tC,tF] (lB N)
def gQ(N:Nat)(a:TC)(b:Int):Option (TC×Int):=az (0<=(a.length:Int)) (az ((a.length:Int)<=(a.length:Int)) (az ((a.length:Int).toNat<=9223372036854775807) (az (((a.length:Int).toNat*4)<=281474976710656) (ck .i64 ((a.length:Int)-1) (aw ((a.length:Int).toNat) (aae (a.length:Int).toNat 0:TC) (kY N N a b 0 ((a.length:Int)-1) (aae (a.length:Int).toNat 0:TC)))))))
abbrev RA(N:Nat):br:=⟨216,⟨[(0,dd tF),(1,dd tI)],[],[]⟩,[⟨[(0,dd tF),(1,dd tI)],[],[]⟩],gQ N⟩
theorem tR(N:Nat):aF Tryz.prog (RA N):=xf N (tc (gE N) tn) [] [⟨4,false,⟨[(0,dd tF),(1,dd tI),(6,.slw (.O 0) tI 0),(7,dd tK),(8,dd tC)],[],[some (.row true tI [])]⟩⟩] 0 Tryz.func216 rfl (by kernel_rfl) fun a=>by kernel_rfl
def fA(N:Nat)(a:TC)(b:Int):Option Int:=bf (decide (b<(a.length:Int))) (aZ a b fun c=>some (δ .u64 c)) (some (0))
abbrev Vm(N:Nat):br:=⟨226,⟨[(0,dd tF),(1,dd tC)],[],[]⟩,[⟨[(0,dd tK)],[],[]⟩],fA N⟩
theorem qW(N:Nat):aF Tryz.prog (Vm N):=xf N tn [] [] 0 Tryz.func226 rfl (by kernel_rfl) fun a=>by kernel_rfl
def fU(N:Nat)(rec3:TC->TC->Int->Int->TC->Option TC)(m:TC->Int->Int->Int->Int->TC->Int->Int->TC->Option TC)(c:TC)(h i:Int)(d e:Int)(j:TC)(k l:Int)(b:TC):Option TC:=bc (bf (decide (e<(c.length:Int))) (aw b.length b (some (c,h,i,d,e,j,k,l,true,b))) (aw b.length b (some (c,h,i,d,e,j,k,l,decide (d>0),b)))) fun a=>bf a.2.2.2.2.2.2.2.2.1 (bc (fA N a.1 a.2.2.2.2.1) fun f=>ck .i64 (a.2.1+a.2.2.2.2.1) (az (0<=(a.2.1+a.2.2.2.2.1)) (az ((a.2.1+a.2.2.2.2.1)<(a.2.2.2.2.2.2.2.2.2.length:Int)) (cr a.2.2.2.2.2.2.2.2.2 ((a.2.1+a.2.2.2.2.1).toNat) fun g=>ck .i64 (a.2.1+a.2.2.2.2.1) (az (0<=(a.2.1+a.2.2.2.2.1)) (az ((a.2.1+a.2.2.2.2.1)<(a.2.2.2.2.2.2.2.2.2.length:Int)) (cr a.2.2.2.2.2.2.2.2.2 ((a.2.1+a.2.2.2.2.1).toNat) fun n=>ck .i64 (a.2.2.2.2.1+1) (aw a.2.2.2.2.2.2.2.2.2.length (aaO a.2.2.2.2.2.2.2.2.2 (a.2.1+a.2.2.2.2.1).toNat (δ .u32 (δ .u64 ((δ .u64 ((δ .u64 ((δ .u64 a.2.2.1)*f))+(δ .u64 g)))+a.2.2.2.1)))) (m a.1 a.2.1 a.2.2.1 ((δ .u64 ((δ .u64 ((δ .u64 ((δ .u64 a.2.2.1)*f))+(δ .u64 g)))+a.2.2.2.1))/(2^32)) (a.2.2.2.2.1+1) a.2.2.2.2.2.1 a.2.2.2.2.2.2.1 a.2.2.2.2.2.2.2.1 (aaO a.2.2.2.2.2.2.2.2.2 (a.2.1+a.2.2.2.2.1).toNat (δ .u32 (δ .u64 ((δ .u64 ((δ .u64 ((δ .u64 a.2.2.1)*f))+(δ .u64 g)))+a.2.2.2.1))))))))))))) (ck .i64 (a.2.2.2.2.2.2.2.1+1) (aw a.2.2.2.2.2.2.2.2.2.length a.2.2.2.2.2.2.2.2.2 (rec3 a.1 a.2.2.2.2.2.1 a.2.2.2.2.2.2.1 (a.2.2.2.2.2.2.2.1+1) a.2.2.2.2.2.2.2.2.2)))
def bY(N:Nat)(rec3:TC->TC->Int->Int->TC->Option TC):Nat->TC->Int->Int->Int->Int->TC->Int->Int->TC->Option TC:=aN [tF,tC,tI,tK,tC,tF,tC,tC,tF] (fU N rec3)
def lG(N:Nat)(rec3:TC->TC->Int->Int->TC->Option TC)(e c:TC)(d b:Int)(a:TC):Option TC:=bf (decide (b<d)) (aZ c b fun f=>aw a.length a (bY N rec3 N e b f 0 0 c d b a)) (aw a.length a (bc (bD N a) fun g=>some g))
def fW(N:Nat):Nat->TC->TC->Int->Int->TC->Option TC:=aN [tF,tF,tC,tC,tF] (lG N)
def eE(N:Nat)(a b:TC):Option TC:=ck .i64 ((a.length:Int)+(b.length:Int)) (ck .i64 (((a.length:Int)+(b.length:Int))+1) (az (0<=(((a.length:Int)+(b.length:Int))+1)) (az ((((a.length:Int)+(b.length:Int))+1)<=(((a.length:Int)+(b.length:Int))+1)) (az ((((a.length:Int)+(b.length:Int))+1).toNat<=9223372036854775807) (az (((((a.length:Int)+(b.length:Int))+1).toNat*4)<=281474976710656) (aw ((((a.length:Int)+(b.length:Int))+1).toNat) (aae (((a.length:Int)+(b.length:Int))+1).toNat 0:TC) (fW N N b a (a.length:Int) 0 (aae (((a.length:Int)+(b.length:Int))+1).toNat 0:TC))))))))
abbrev Xm(N:Nat):br:=⟨220,⟨[(0,dd tF),(1,dd tF)],[],[]⟩,[⟨[(0,dd tF)],[],[]⟩],eE N⟩
theorem nH(N:Nat):aF Tryz.prog (Xm N):=xf N (tc (qW N) (tc (gE N) tn)) [] [⟨13,true,⟨[(1,dd tF),(5,.slw (.O 0) tI 0),(6,dd tC),(7,dd tI),(8,dd tK),(9,dd tC),(18,dd tF),(19,dd tC),(20,dd tC),(32,dd .b)],[],[some (.row true tI [])]⟩⟩,⟨11,false,⟨[(1,dd tF),(5,.slw (.O 0) tI 0),(6,dd tC),(7,dd tI),(8,dd tK),(9,dd tC),(18,dd tF),(19,dd tC),(20,dd tC)],[],[some (.row true tI [])]⟩⟩,⟨4,false,⟨[(1,dd tF),(5,.slw (.O 0) tI 0),(18,dd tF),(19,dd tC),(20,dd tC)],[],[some (.row true tI [])]⟩⟩] 0 Tryz.func220 rfl (by kernel_rfl) fun a=>by kernel_rfl
def cM(N:Nat)(b:TC)(a:Int):Option TC:=bf (decide (a<0)) (ck .i64 (-a) (az (0<=(-a)) (az ((-a)<=(((abP .u32):Nat):Int)) (bc (gQ N b (δ .u32 (1*(2^(-a).toNat)))) fun c=>some c.1)))) (az (0<=a) (az (a<=(((abP .u32):Nat):Int)) (bc (eE N b [(δ .u32 (1*(2^a.toNat)))]) fun d=>some d)))
abbrev SM(N:Nat):br:=⟨218,⟨[(0,dd tF),(1,dd tC)],[],[]⟩,[⟨[(0,dd tF)],[],[]⟩],cM N⟩
theorem aFt(N:Nat):aF Tryz.prog (SM N):=xf N (tc (tR N) (tc (nH N) tn)) [] [] 0 Tryz.func218 rfl (by kernel_rfl) fun a=>by kernel_rfl
def bR(N:Nat)(a:TC):Option TC:=bf (decide (0<a.length)) (az ((a.length*4)<=140737488355328) (aw a.length a (some a))) (DY (some ([]:TC)) (az ((a.length*4)<=140737488355328) (aw a.length a (some a))))
abbrev qP(N:Nat):br:=⟨219,⟨[(0,dd tF)],[],[]⟩,[⟨[(0,.slw (.O 0) tI 0)],[],[some (.row true tI [])]⟩],bR N⟩
theorem qN(N:Nat):aF Tryz.prog (qP N):=xf N tn [7] [] 0 Tryz.func219 rfl (by kernel_rfl) fun a=>by kernel_rfl
def lA(N:Nat)(rec3:TC->TC->Int->Int->Int->TC->Option TC)(f g:TC)(b h c:Int)(a:TC):Option TC:=bf (decide (c<h)) (aZ f c fun d=>bc (fA N g c) fun e=>aw a.length a (az (((a.length+[(δ .u32 (δ .u64 ((δ .u64 ((δ .u64 d)-e))-b)))].length)*4)<=140737488355328) (ck .i64 (c+1) (aw ((a++[(δ .u32 (δ .u64 ((δ .u64 ((δ .u64 d)-e))-b)))]).length) (a++[(δ .u32 (δ .u64 ((δ .u64 ((δ .u64 d)-e))-b)))]) (rec3 f g ((δ .u64 ((δ .u64 ((δ .u64 d)-e))-b))/(2^63)) h (c+1) (a++[(δ .u32 (δ .u64 ((δ .u64 ((δ .u64 d)-e))-b)))])))))) (aw a.length a (bc (bD N a) fun i=>some i))
def kW(N:Nat):Nat->TC->TC->Int->Int->Int->TC->Option TC:=aN [tF,tF,tK,tC,tC,tF] (lA N)
def fL(N:Nat)(a b:TC):Option TC:=kW N N a b 0 (a.length:Int) 0 ([]:TC)
abbrev SE(N:Nat):br:=⟨221,⟨[(0,dd tF),(1,dd tF)],[],[]⟩,[⟨[(0,dd tF)],[],[]⟩],fL N⟩
theorem sU(N:Nat):aF Tryz.prog (SE N):=xf N (tc (qW N) (tc (gE N) tn)) [29] [⟨5,false,⟨[(0,dd tF),(1,dd tF),(5,.slw (.O 0) tI 0),(6,dd tK),(10,dd tC),(11,dd tC)],[],[some (.row true tI [])]⟩⟩] 0 Tryz.func221 rfl (by kernel_rfl) fun a=>by kernel_rfl
def oR(N:Nat)(n:Int->TC->Int->Int->Int->Int->Int->TC->TC->TC->Option TQ)(k:Int)(f:TC)(l e:Int)(g a b:Int)(h c d:TC):Option TQ:=az ((a.toNat+b.toNat)<=c.length) (bc (bR N (aaq b.toNat (aaD a.toNat c))) fun i=>aw i.length i (bc (bD N i) fun o=>bc (cV N o h) fun p=>bf (decide (p<0)) (bc (fL N h f) fun q=>aw c.length c (aw d.length d (n k f l e (δ .u64 (g-1)) (a.toNat:Int) (b.toNat:Int) q c d))) (az ((a.toNat+b.toNat)<=c.length) (bc (bR N (aaq b.toNat (aaD a.toNat c))) fun j=>aw j.length j (bc (bD N j) fun r=>bc (fL N r h) fun m=>az ((a.toNat+b.toNat)<=c.length) (az ((a.toNat+b.toNat)<=(((aaq a.toNat c)++(aae b.toNat 0:TC))++(aaD (a.toNat+b.toNat) c)).length) (az (0<=e) (az (e<(d.length:Int)) (cr d e.toNat fun s=>aw c.length (vj (((aaq a.toNat c)++(aae b.toNat 0:TC))++(aaD (a.toNat+b.toNat) c)) a.toNat b.toNat m) (aw d.length (aaO d e.toNat (δ .u32 g)) (some (k,f,l,e,(vj (((aaq a.toNat c)++(aae b.toNat 0:TC))++(aaD (a.toNat+b.toNat) c)) a.toNat b.toNat m),(aaO d e.toNat (δ .u32 g))))))))))))))
def kH(N:Nat):Nat->Int->TC->Int->Int->Int->Int->Int->TC->TC->TC->Option TQ:=aN [tC,tF,tC,tC,tK,tC,tC,tF,tF,tF] (oR N)
def oP(N:Nat)(j:Int->TC->Int->Int->Int->Int->TC->TC->Option TQ)(i:Int)(g:TC)(b d:Int)(h f:Int)(c e:TC):Option TQ:=bc (bf (decide (f<4294967296)) (ck .i64 (b-2) (aZ g (b-2) fun k=>ck .i64 (d+b) (ck .i64 ((d+b)-2) (az (0<=((d+b)-2)) (az (((d+b)-2)<(c.length:Int)) (cr c (((d+b)-2).toNat) fun l=>aw c.length c (aw e.length e (some (i,g,b,d,h,f,decide ((δ .u64 (h*(δ .u64 k)))>(bits .or .u64 (δ .u64 (f*(2^32))) (δ .u64 l))),c,e))))))))) (aw c.length c (aw e.length e (some (i,g,b,d,h,f,false,c,e))))) fun a=>bf a.2.2.2.2.2.2.1 (ck .i64 (a.2.2.1-1) (aZ a.2.1 (a.2.2.1-1) fun m=>aw a.2.2.2.2.2.2.2.1.length a.2.2.2.2.2.2.2.1 (aw a.2.2.2.2.2.2.2.2.length a.2.2.2.2.2.2.2.2 (j a.1 a.2.1 a.2.2.1 a.2.2.2.1 (δ .u64 (a.2.2.2.2.1-1)) (δ .u64 (a.2.2.2.2.2.1+(δ .u64 m))) a.2.2.2.2.2.2.2.1 a.2.2.2.2.2.2.2.2)))) (bf (a.2.2.2.2.1==0) (aw a.2.2.2.2.2.2.2.1.length a.2.2.2.2.2.2.2.1 (aw a.2.2.2.2.2.2.2.2.length a.2.2.2.2.2.2.2.2 (some (a.1,a.2.1,a.2.2.1,a.2.2.2.1,a.2.2.2.2.2.2.2.1,a.2.2.2.2.2.2.2.2)))) (ck .i64 (a.2.2.2.1+a.2.2.1) (ck .i64 ((a.2.2.2.1+a.2.2.1)+1) (az (0<=((a.2.2.2.1+a.2.2.1)+1)) (az (0<=a.2.2.2.1) (az (a.2.2.2.1.toNat<=((a.2.2.2.1+a.2.2.1)+1).toNat) (az (((a.2.2.2.1+a.2.2.1)+1).toNat<=a.2.2.2.2.2.2.2.1.length) (bc (eE N a.2.1 [(δ .u32 a.2.2.2.2.1)]) fun n=>aw a.2.2.2.2.2.2.2.1.length a.2.2.2.2.2.2.2.1 (aw a.2.2.2.2.2.2.2.2.length a.2.2.2.2.2.2.2.2 (kH N N a.1 a.2.1 a.2.2.1 a.2.2.2.1 a.2.2.2.2.1 (a.2.2.2.1.toNat:Int) (((((a.2.2.2.1+a.2.2.1)+1).toNat-a.2.2.2.1.toNat):Nat):Int) n a.2.2.2.2.2.2.2.1 a.2.2.2.2.2.2.2.2))))))))))
def oS(N:Nat):Nat->Int->TC->Int->Int->Int->Int->TC->TC->Option TQ:=aN [tC,tF,tC,tC,tK,tK,tF,tF] (oP N)
def oM(N:Nat)(k:Int->TC->Int->Int->TC->TC->Option (TC×TC))(f:Int)(g:TC)(a b:Int)(d e:TC):Option (TC×TC):=bf (decide (b≥0)) (bc (ck .i64 (b+a) (az (0<=(b+a)) (az ((b+a)<(d.length:Int)) (cr d ((b+a).toNat) fun h=>ck .i64 (b+a) (ck .i64 ((b+a)-1) (az (0<=((b+a)-1)) (az (((b+a)-1)<(d.length:Int)) (cr d (((b+a)-1).toNat) fun i=>ck .i64 (a-1) (aZ g (a-1) fun j=>az ((δ .u64 j)≠0) (ck .i64 (a-1) (aZ g (a-1) fun l=>aw d.length d (aw e.length e (oS N N f g a b (Min.min (δ .u64 (ac2 (bits .or .u64 (δ .u64 ((δ .u64 h)*(2^32))) (δ .u64 i)) (δ .u64 j))) 4294967295) (δ .u64 ((bits .or .u64 (δ .u64 ((δ .u64 h)*(2^32))) (δ .u64 i))-(δ .u64 ((Min.min (δ .u64 (ac2 (bits .or .u64 (δ .u64 ((δ .u64 h)*(2^32))) (δ .u64 i)) (δ .u64 j))) 4294967295)*(δ .u64 l))))) d e))))))))))))) fun c=>ck .i64 (c.2.2.2.1-1) (aw c.2.2.2.2.1.length c.2.2.2.2.1 (aw c.2.2.2.2.2.length c.2.2.2.2.2 (k c.1 c.2.1 c.2.2.1 (c.2.2.2.1-1) c.2.2.2.2.1 c.2.2.2.2.2)))) (aw e.length e (bc (bD N e) fun m=>aw d.length d (bc (bD N d) fun n=>ck .i64 (-f) (bc (cM N n (-f)) fun o=>some (m,o)))))
def oQ(N:Nat):Nat->Int->TC->Int->Int->TC->TC->Option (TC×TC):=aN [tC,tF,tC,tC,tF,tF] (oM N)
def oE(N:Nat)(f:TC->TC->Int->Option (TC×TC))(b e:TC)(d:Int):Option (TC×TC):=ck .i64 ((e.length:Int)-1) (aZ e ((e.length:Int)-1) fun g=>az (0<=d) (az (d<=(((abP .u32):Nat):Int)) (bf (decide ((δ .u32 (g*(2^d.toNat)))<2147483648)) (ck .i64 (d+1) (f b e (d+1))) (bc (cM N e d) fun a=>bc (cM N b d) fun h=>bc (bR N h) fun c=>aw c.length c (az (((c.length+[0,0].length)*4)<=140737488355328) (ck .i64 ((b.length:Int)-(a.length:Int)) (ck .i64 (((b.length:Int)-(a.length:Int))+2) (az (0<=(((b.length:Int)-(a.length:Int))+2)) (az ((((b.length:Int)-(a.length:Int))+2)<=(((b.length:Int)-(a.length:Int))+2)) (az ((((b.length:Int)-(a.length:Int))+2).toNat<=9223372036854775807) (az (((((b.length:Int)-(a.length:Int))+2).toNat*4)<=281474976710656) (ck .i64 ((((c++[0,0]).length:Nat):Int)-(a.length:Int)) (ck .i64 (((((c++[0,0]).length:Nat):Int)-(a.length:Int))-1) (aw ((c++[0,0]).length) (c++[0,0]) (aw ((((b.length:Int)-(a.length:Int))+2).toNat) (aae (((b.length:Int)-(a.length:Int))+2).toNat 0:TC) (oQ N N d a (a.length:Int) (((((c++[0,0]).length:Nat):Int)-(a.length:Int))-1) (c++[0,0]) (aae (((b.length:Int)-(a.length:Int))+2).toNat 0:TC)))))))))))))))))
def oT(N:Nat):Nat->TC->TC->Int->Option (TC×TC):=aN [tF,tF,tC] (oE N)
def mZ(N:Nat)(a b:TC):Option (TC×TC):=bc (cV N a b) fun d=>bf (decide (d<0)) (some (([]:TC),a)) (bf ((b.length:Int)==1) (aZ b (0) fun e=>bc (gQ N a e) fun c=>bc (bD N [c.2]) fun f=>some (c.1,f)) (oT N N a b 0))
abbrev Vy(N:Nat):br:=⟨206,⟨[(0,dd tF),(1,dd tF)],[],[]⟩,[⟨[(0,dd tF),(1,dd tF)],[],[]⟩],mZ N⟩
theorem Ym(N:Nat):aF Tryz.prog (Vy N):=xf N (tc (lD N) (tc (tR N) (tc (gE N) (tc (aFt N) (tc (qN N) (tc (nH N) (tc (sU N) tn))))))) [59] [⟨23,true,⟨[(8,dd tC),(9,dd tF),(10,.slw (.O 0) tI 0),(11,dd tC),(12,.slw (.O 1) tI 0),(13,dd tC)],[],[some (.row true tI []),some (.row true tI [])]⟩⟩,⟨37,false,⟨[(8,dd tC),(9,dd tF),(10,.slw (.O 0) tI 0),(11,dd tC),(12,.slw (.O 1) tI 0),(13,dd tC),(15,dd tK),(17,.sl (.O 0) tI 0 0),(18,dd tF)],[],[some (.row true tI []),some (.row true tI [])]⟩⟩,⟨30,true,⟨[(8,dd tC),(9,dd tF),(10,.slw (.O 0) tI 0),(11,dd tC),(12,.slw (.O 1) tI 0),(13,dd tC),(15,dd tK),(16,dd tK),(136,dd .b)],[],[some (.row true tI []),some (.row true tI [])]⟩⟩,⟨28,false,⟨[(8,dd tC),(9,dd tF),(10,.slw (.O 0) tI 0),(11,dd tC),(12,.slw (.O 1) tI 0),(13,dd tC),(15,dd tK),(16,dd tK)],[],[some (.row true tI []),some (.row true tI [])]⟩⟩,⟨20,false,⟨[(8,dd tC),(9,dd tF),(10,.slw (.O 0) tI 0),(11,dd tC),(12,.slw (.O 1) tI 0),(13,dd tC)],[],[some (.row true tI []),some (.row true tI [])]⟩⟩,⟨10,false,⟨[(0,dd tF),(1,dd tF),(8,dd tC)],[],[]⟩⟩] 0 Tryz.func206 rfl (by kernel_rfl) fun a=>by kernel_rfl
def pG(N:Nat)(cy:Nat->TC->TC->Option TC)(b a:TC):Option TC:=bf ((a.length:Int)==0) (some b) (bc (mZ N b a) fun c=>bc (cy N a c.2) fun d=>some d)
def cy:Nat->TC->TC->Option TC|0=>fun _ _=>none|N+1=>pG N fun _=>cy N
abbrev UH(N:Nat):br:=⟨205,⟨[(0,dd tF),(1,dd tF),(2,.ptr (.B 0) 0)],[some (.box [.clo 205 [.ptr (.B 0) 0]])],[]⟩,[⟨[(0,dd tF)],[some (.box [.clo 205 [.ptr (.B 0) 0]])],[]⟩],cy N⟩
theorem WK(N:Nat):aF Tryz.prog (UH N):=by induction N with|zero=>(intro _ v r h;cases(show none=some r from h))|succ N ih=>exact xf N (tc (Ym N) (tc ih tn)) [21,5000205] [] 1 Tryz.func205 rfl (by kernel_rfl) fun a=>by kernel_rfl
def fQ(rec2:Int->Int->TC->Option TC)(a c:Int)(b:TC):Option TC:=bf (decide (a<c)) (az (0<=c) (az (c<(b.length:Int)) (cr b c.toNat fun d=>az (0<=a) (az (a<(b.length:Int)) (cr b a.toNat fun e=>az (0<=a) (az (a<(b.length:Int)) (cr b a.toNat fun f=>az (0<=c) (az (c<(b.length:Int)) (cr (aaO b a.toNat d) c.toNat fun g=>ck .i64 (a+1) (ck .i64 (c-1) (aw b.length (aaO (aaO b a.toNat d) c.toNat e) (rec2 (a+1) (c-1) (aaO (aaO b a.toNat d) c.toNat e))))))))))))) (some b)
def fN:Nat->Int->Int->TC->Option TC:=aN [tC,tC,tH] (fQ)
def eB(N:Nat)(a:TC):Option TC:=ck .i64 ((a.length:Int)-1) (aw a.length a (fN N 0 ((a.length:Int)-1) a))
abbrev rD(N:Nat):br:=⟨222,⟨[(0,.slw (.B 0) (.i .u8) 0)],[some (.row true (.i .u8) [])],[]⟩,[⟨[],[some (.row true (.i .u8) [])],[]⟩],eB N⟩
theorem rM(N:Nat):aF Tryz.prog (rD N):=xf N tn [] [⟨1,false,⟨[(0,.slw (.B 0) (.i .u8) 0),(2,dd tC),(3,dd tC)],[some (.row true (.i .u8) [])],[]⟩⟩] 1 Tryz.func222 rfl (by kernel_rfl) fun a=>by kernel_rfl
def gW(rec3:cc->Int->Option cc)(b:cc)(c:Int):Option cc:=bc (bf (decide ((b.length:Int)>0)) (aZ b (0) fun d=>some (b,c,((d.toNat:Int)==c))) (some (b,c,false))) fun a=>bf a.2.2 (az (1<=a.1.length) (az (a.1.length<=a.1.length) (rec3 (aaq (a.1.length-1) (aaD 1 a.1)) a.2.1))) (some a.1)
def cY:Nat->cc->Int->Option cc:=aN [.s,(.i .u8)] (gW)
def iO(N:Nat)(a:cc)(b:Int):Option cc:=cY N a b
abbrev wM(N:Nat):br:=⟨229,⟨[(0,dd .s),(1,dd (.i .u8))],[],[]⟩,[⟨[(0,dd .s)],[],[]⟩],iO N⟩
theorem wD(N:Nat):aF Tryz.prog (wM N):=xf N tn [] [⟨4,true,⟨[(0,dd .s),(1,dd (.i .u8)),(13,dd .b)],[],[]⟩⟩,⟨2,false,⟨[(0,dd .s),(1,dd (.i .u8))],[],[]⟩⟩] 0 Tryz.func229 rfl (by kernel_rfl) fun a=>by kernel_rfl
def nD(N:Nat)(a:cc):Option Unit:=none
abbrev vX(N:Nat):br:=⟨230,⟨[(0,dd .s)],[],[]⟩,[],nD N⟩
theorem wI(N:Nat):aF Tryz.prog (vX N):=by intro _ v r h;cases(show none=some r from h)
def mA(N:Nat)(c d:cc):Option cc:=bc (bf (c==([]:cc)) (some (c,d,true)) (some (c,d,(d==([]:cc))))) fun a=>bf a.2.2 (some a.1) (bc (bf ((a.2.1.length:Int)==1) (aZ a.2.1 (0) fun e=>some (a.1,a.2.1,decide ((e.toNat:Int)<128))) (some (a.1,a.2.1,false))) fun b=>bf b.2.2 (aZ b.2.1 (0) fun f=>bc (iO N b.1 (f.toNat:Int)) fun g=>some g) (bc (nD N b.2.1) fun h=>none))
abbrev Zj(N:Nat):br:=⟨227,⟨[(0,dd .s),(1,dd .s)],[],[]⟩,[⟨[(0,dd .s)],[],[]⟩],mA N⟩
theorem X1(N:Nat):aF Tryz.prog (Zj N):=xf N (tc (wD N) (tc (wI N) tn)) [] [⟨5,true,⟨[(0,dd .s),(1,dd .s),(21,dd .b)],[],[]⟩⟩,⟨2,true,⟨[(0,dd .s),(1,dd .s),(12,dd .b)],[],[]⟩⟩] 0 Tryz.func227 rfl (by kernel_rfl) fun a=>by kernel_rfl
def uA(N:Nat)(a:cc):Option cc:=bc (mA N a ([0]:cc)) fun b=>some b
abbrev aUs(N:Nat):br:=⟨223,⟨[(0,dd .s)],[],[]⟩,[⟨[(0,dd .s)],[],[]⟩],uA N⟩
theorem Zd(N:Nat):aF Tryz.prog (aUs N):=xf N (tc (X1 N) tn) [] [] 0 Tryz.func223 rfl (by kernel_rfl) fun a=>by kernel_rfl
def mM(N:Nat)(rec2:TC->Int->Int->TC->Option cc)(d:TC)(e c:Int)(b:TC):Option cc:=bf (decide (c<e)) (aZ d c fun a=>aw b.length b (az (((b.length+[(δ .u8 a),(δ .u8 (a/(2^8))),(δ .u8 (a/(2^16))),(δ .u8 (a/(2^24)))].length)*1)<=140737488355328) (ck .i64 (c+1) (aw ((b++[(δ .u8 a),(δ .u8 (a/(2^8))),(δ .u8 (a/(2^16))),(δ .u8 (a/(2^24)))]).length) (b++[(δ .u8 a),(δ .u8 (a/(2^8))),(δ .u8 (a/(2^16))),(δ .u8 (a/(2^24)))]) (rec2 d e (c+1) (b++[(δ .u8 a),(δ .u8 (a/(2^8))),(δ .u8 (a/(2^16))),(δ .u8 (a/(2^24)))])))))) (aw b.length b (bc (eB N b) fun f=>aw b.length f (bc (uA N (bE f)) fun g=>some g)))
def mK(N:Nat):Nat->TC->Int->Int->TC->Option cc:=aN [tF,tC,tC,tH] (mM N)
def eR(N:Nat)(a:TC):Option cc:=mK N N a (a.length:Int) 0 ([]:TC)
abbrev VW(N:Nat):br:=⟨208,⟨[(0,dd tF)],[],[]⟩,[⟨[(0,dd .s)],[],[]⟩],eR N⟩
theorem kM(N:Nat):aF Tryz.prog (VW N):=xf N (tc (rM N) (tc (Zd N) tn)) [5000222,25] [⟨4,false,⟨[(3,.slw (.O 0) (.i .u8) 0),(6,dd tF),(7,dd tC),(8,dd tC)],[],[some (.row true (.i .u8) [])]⟩⟩] 0 Tryz.func208 rfl (by kernel_rfl) fun a=>by kernel_rfl
def EN(N:Nat)(a b:cc):Option cc:=bc (eU N a) fun c=>bc (eU N b) fun d=>bc (cy N c d) fun e=>bc (eR N e) fun f=>some f
abbrev Yp(N:Nat):br:=⟨196,⟨[(0,dd .s),(1,dd .s)],[],[]⟩,[⟨[(0,dd .s)],[],[]⟩],EN N⟩
theorem Zl(N:Nat):aF Tryz.prog (Yp N):=xf N (tc (rN N) (tc (WK N) (tc (kM N) tn))) [12,5000205] [] 0 Tryz.func196 rfl (by kernel_rfl) fun a=>by kernel_rfl
def mT(N:Nat)(a:TM):Option Bool:=bf (lZ [2,2] (a.1==false) (lZ [2] (a.2.1==([]:cc)) (lZ ([]:(List Nat)) (a.2.2==([]:cc)) true))) (some true) (bc (bf (!(a.2.1==([]:cc))) (bf (!(a.2.2==([]:cc))) (bc (pL N a.2.1) fun b=>bf b (bc (pL N a.2.2) fun c=>bf c (bc (EN N a.2.1 a.2.2) fun d=>some (d==([1]:cc))) (some false)) (some false)) (some false)) (some false)) fun e=>some e)
abbrev Zv(N:Nat):br:=⟨186,⟨[(0,dd tJ)],[],[]⟩,[⟨[(0,dd .b)],[],[]⟩],mT N⟩
theorem Po(N:Nat):aF Tryz.prog (Zv N):=xf N (tc (ZJ N) (tc (Zl N) tn)) [] [⟨4,true,⟨[(2,dd .b)],[],[]⟩⟩] 0 Tryz.func186 rfl (by kernel_rfl) fun a=>by kernel_rfl
def xX(N:Nat)(a:TM):Option TM:=bc (bf (a.2.1==([]:cc)) (some (true,a.1,a.2.1,a.2.2,false,([]:cc),([]:cc))) (bc (mT N a) fun c=>some ((!c),a.1,a.2.1,a.2.2,false,([]:cc),([]:cc)))) fun b=>bf b.1 (some (false,(([]:cc),([1]:cc)))) (some (b.2.1,(b.2.2.1,b.2.2.2.1)))
abbrev Zm(N:Nat):br:=⟨187,⟨[(0,dd tJ)],[],[]⟩,[⟨[(0,dd tJ)],[],[]⟩],xX N⟩
theorem ZY(N:Nat):aF Tryz.prog (Zm N):=xf N (tc (Po N) tn) [] [⟨2,true,⟨[(1,.ptr (.O 0) 0),(2,.ptr (.O 1) 0),(10,dd .b)],[],[some (.box [dd .b,dd .s,dd .s]),some (.box [dd .b,dd .s,dd .s])]⟩⟩] 0 Tryz.func187 rfl (by kernel_rfl) fun a=>by kernel_rfl
def qQ(N:Nat)(a b:cc):Option cc:=bc (eU N a) fun c=>bc (eU N b) fun d=>bc (eE N c d) fun e=>bc (eR N e) fun f=>some f
abbrev bBc(N:Nat):br:=⟨209,⟨[(0,dd .s),(1,dd .s)],[],[]⟩,[⟨[(0,dd .s)],[],[]⟩],qQ N⟩
theorem Zt(N:Nat):aF Tryz.prog (bBc N):=xf N (tc (rN N) (tc (nH N) (tc (kM N) tn))) [] [] 0 Tryz.func209 rfl (by kernel_rfl) fun a=>by kernel_rfl
def lY(N:Nat)(rec3:TC->TC->Int->Int->Int->TC->Option TC)(f g:TC)(b h c:Int)(a:TC):Option TC:=bf (decide (c<h)) (bc (fA N f c) fun d=>bc (fA N g c) fun e=>aw a.length a (az (((a.length+[(δ .u32 (δ .u64 ((δ .u64 (d+e))+b)))].length)*4)<=140737488355328) (ck .i64 (c+1) (aw ((a++[(δ .u32 (δ .u64 ((δ .u64 (d+e))+b)))]).length) (a++[(δ .u32 (δ .u64 ((δ .u64 (d+e))+b)))]) (rec3 f g ((δ .u64 ((δ .u64 (d+e))+b))/(2^32)) h (c+1) (a++[(δ .u32 (δ .u64 ((δ .u64 (d+e))+b)))])))))) (aw a.length a (bc (bD N a) fun i=>some i))
def mC(N:Nat):Nat->TC->TC->Int->Int->Int->TC->Option TC:=aN [tF,tF,tK,tC,tC,tF] (lY N)
def kK(N:Nat)(a b:TC):Option TC:=ck .i64 ((Max.max (a.length:Int) (b.length:Int))+1) (mC N N a b 0 ((Max.max (a.length:Int) (b.length:Int))+1) 0 ([]:TC))
abbrev Yw(N:Nat):br:=⟨224,⟨[(0,dd tF),(1,dd tF)],[],[]⟩,[⟨[(0,dd tF)],[],[]⟩],kK N⟩
theorem SY(N:Nat):aF Tryz.prog (Yw N):=xf N (tc (qW N) (tc (gE N) tn)) [31] [⟨5,false,⟨[(0,dd tF),(1,dd tF),(5,.slw (.O 0) tI 0),(6,dd tK),(14,dd tC),(15,dd tC)],[],[some (.row true tI [])]⟩⟩] 0 Tryz.func224 rfl (by kernel_rfl) fun a=>by kernel_rfl
def zW(N:Nat)(a b:cc):Option cc:=bc (eU N a) fun c=>bc (eU N b) fun d=>bc (kK N c d) fun e=>bc (eR N e) fun f=>some f
abbrev YY(N:Nat):br:=⟨210,⟨[(0,dd .s),(1,dd .s)],[],[]⟩,[⟨[(0,dd .s)],[],[]⟩],zW N⟩
theorem Rw(N:Nat):aF Tryz.prog (YY N):=xf N (tc (rN N) (tc (SY N) (tc (kM N) tn))) [] [] 0 Tryz.func210 rfl (by kernel_rfl) fun a=>by kernel_rfl
def Dt(N:Nat)(a b:cc):Option Int:=bc (eU N a) fun c=>bc (eU N b) fun d=>bc (cV N c d) fun e=>some e
abbrev Uz(N:Nat):br:=⟨211,⟨[(0,dd .s),(1,dd .s)],[],[]⟩,[⟨[(0,dd tC)],[],[]⟩],Dt N⟩
theorem Yl(N:Nat):aF Tryz.prog (Uz N):=xf N (tc (rN N) (tc (lD N) tn)) [] [] 0 Tryz.func211 rfl (by kernel_rfl) fun a=>by kernel_rfl
def CE(N:Nat)(c d:cc):Option (cc×Int):=bc (eU N c) fun a=>bc (eU N d) fun b=>bc (cV N a b) fun e=>bf (decide (e<0)) (some (([]:cc),3)) (bc (fL N a b) fun f=>bc (eR N f) fun g=>some (g,0))
abbrev bBd(N:Nat):br:=⟨212,⟨[(0,dd .s),(1,dd .s)],[],[]⟩,[⟨[(0,dd .s),(1,dd tC)],[],[]⟩],CE N⟩
theorem bBm(N:Nat):aF Tryz.prog (bBd N):=xf N (tc (rN N) (tc (lD N) (tc (sU N) (tc (kM N) tn)))) [] [] 0 Tryz.func212 rfl (by kernel_rfl) fun a=>by kernel_rfl
def iA(N:Nat)(a b:TM):Option TM:=bc (qQ N a.2.1 b.2.2) fun c=>bc (qQ N b.2.1 a.2.2) fun d=>bc (qQ N a.2.2 b.2.2) fun f=>bf (a.1==b.1) (bc (zW N c d) fun g=>some (a.1,(g,f))) (bc (bc (Dt N c d) fun h=>bf (decide (h<0)) (some (d,c,f,b.1,a.2.1,a.2.2,false,([]:cc),([]:cc))) (some (c,d,f,a.1,a.2.1,a.2.2,false,([]:cc),([]:cc)))) fun e=>bc (CE N e.1 e.2.1) fun i=>some (e.2.2.2.1,(i.1,e.2.2.1)))
abbrev XA(N:Nat):br:=⟨197,⟨[(0,dd tJ),(1,dd tJ)],[],[]⟩,[⟨[(0,dd tJ)],[],[]⟩],iA N⟩
theorem QG(N:Nat):aF Tryz.prog (XA N):=xf N (tc (Zt N) (tc (Rw N) (tc (Yl N) (tc (bBm N) tn)))) [] [⟨5,true,⟨[(2,.ptr (.O 0) 0),(4,.ptr (.O 1) 0),(5,dd .s),(6,dd .s),(7,dd .s)],[],[some (.box [dd .b,dd .s,dd .s]),some (.box [dd .b,dd .s,dd .s])]⟩⟩] 0 Tryz.func197 rfl (by kernel_rfl) fun a=>by kernel_rfl
def lF(N:Nat)(a b:TM):Option TM:=bc (iA N a ((!b.1),b.2)) fun c=>some c
abbrev S7(N:Nat):br:=⟨188,⟨[(0,dd tJ),(1,dd tJ)],[],[]⟩,[⟨[(0,dd tJ)],[],[]⟩],lF N⟩
theorem Us(N:Nat):aF Tryz.prog (S7 N):=xf N (tc (QG N) tn) [] [] 0 Tryz.func188 rfl (by kernel_rfl) fun a=>by kernel_rfl
def uX(N:Nat)(a b:TM):Option Int:=bc (xX N a) fun c=>bc (xX N b) fun d=>bc (lF N c d) fun e=>bf (e.2.1==([]:cc)) (some (0)) (bf e.1 (some (-1)) (some (1)))
abbrev Ya(N:Nat):br:=⟨176,⟨[(0,dd tJ),(1,dd tJ)],[],[]⟩,[⟨[(0,dd tC)],[],[]⟩],uX N⟩
theorem bBa(N:Nat):aF Tryz.prog (Ya N):=xf N (tc (ZY N) (tc (Us N) tn)) [] [] 0 Tryz.func176 rfl (by kernel_rfl) fun a=>by kernel_rfl
def lS(N:Nat)(a:Int):Option Bool:=bc (bf (decide (a≥(-1000))) (some (decide (a<=2000))) (some false)) fun b=>some b
abbrev Tu(N:Nat):br:=⟨174,⟨[(0,dd tC)],[],[]⟩,[⟨[(0,dd .b)],[],[]⟩],lS N⟩
theorem X5(N:Nat):aF Tryz.prog (Tu N):=xf N tn [] [⟨1,true,⟨[(2,dd .b)],[],[]⟩⟩] 0 Tryz.func174 rfl (by kernel_rfl) fun a=>by kernel_rfl
def iJ(N:Nat)(a:TM):Option Bool:=bc (bc (mT N a) fun b=>bf b (some (!a.1)) (some false)) fun c=>some c
abbrev XG(N:Nat):br:=⟨175,⟨[(0,dd tJ)],[],[]⟩,[⟨[(0,dd .b)],[],[]⟩],iJ N⟩
theorem Xo(N:Nat):aF Tryz.prog (XG N):=xf N (tc (Po N) tn) [] [⟨1,true,⟨[(2,dd .b)],[],[]⟩⟩] 0 Tryz.func175 rfl (by kernel_rfl) fun a=>by kernel_rfl
def lR(N:Nat)(rec3:TE->Int->Int->TE->Option Int)(e:TE)(f a:Int)(d:TE):Option Int:=bf (decide (a<f)) (aZ e a fun b=>bc (lS N b.1) fun h=>bf (!h) (some (3)) (bc (iJ N b.2) fun i=>bf (!i) (some (1)) (bc (bf (decide (a>0)) (ck .i64 (a-1) (aZ d (a-1) fun j=>bf (decide (b.1<=j.1)) (some (e,f,a,true,d)) (ck .i64 (a-1) (aZ d (a-1) fun g=>bc (uX N b.2 g.2) fun k=>some (e,f,a,decide (k<0),d))))) (some (e,f,a,false,d))) fun c=>bf c.2.2.2.1 (some (1)) (ck .i64 (c.2.2.1+1) (rec3 c.1 c.2.1 (c.2.2.1+1) c.2.2.2.2))))) (some (0))
def iT(N:Nat):Nat->TE->Int->Int->TE->Option Int:=aN [(.sl tE),tC,tC,(.sl tE)] (lR N)
def pB(N:Nat)(a:TE):Option Int:=bc (bf (decide ((a.length:Int)<1)) (some (true,a)) (some (decide ((a.length:Int)>16),a))) fun b=>bf b.1 (some (2)) (iT N N b.2 (b.2.length:Int) 0 b.2)
abbrev Vb(N:Nat):br:=⟨150,⟨[(0,dd (.w (.sl tE)))],[],[]⟩,[⟨[(0,dd tC)],[],[]⟩],pB N⟩
theorem X7(N:Nat):aF Tryz.prog (Vb N):=xf N (tc (X5 N) (tc (Xo N) (tc (bBa N) tn))) [] [⟨16,true,⟨[(1,.ptr (.O 0) 0),(16,dd (.sl tE)),(17,dd tC),(18,dd tC),(33,dd .b)],[],[some (.box [dd (.sl tE)])]⟩⟩,⟨7,false,⟨[(1,.ptr (.O 0) 0),(16,dd (.sl tE)),(17,dd tC),(18,dd tC)],[],[some (.box [dd (.sl tE)])]⟩⟩,⟨3,true,⟨[(1,.ptr (.O 0) 0),(14,dd .b)],[],[some (.box [dd (.sl tE)])]⟩⟩] 0 Tryz.func150 rfl (by kernel_rfl) fun a=>by kernel_rfl
def cQ(N:Nat)(a:TH):Option Bool:=bc (bf (decide (a.2.1<0)) (some (true,a.1,a.2.1,a.2.2.1,a.2.2.2.1,a.2.2.2.2.1,a.2.2.2.2.2.1,a.2.2.2.2.2.2.1,a.2.2.2.2.2.2.2)) (bf (decide (a.2.1≥40)) (some (true,a.1,a.2.1,a.2.2.1,a.2.2.2.1,a.2.2.2.2.1,a.2.2.2.2.2.1,a.2.2.2.2.2.2.1,a.2.2.2.2.2.2.2)) (bf (decide (a.2.2.1<0)) (some (true,a.1,a.2.1,a.2.2.1,a.2.2.2.1,a.2.2.2.2.1,a.2.2.2.2.2.1,a.2.2.2.2.2.2.1,a.2.2.2.2.2.2.2)) (bf (decide (a.2.2.1>1099511627776)) (some (true,a.1,a.2.1,a.2.2.1,a.2.2.2.1,a.2.2.2.2.1,a.2.2.2.2.2.1,a.2.2.2.2.2.2.1,a.2.2.2.2.2.2.2)) (bf (decide (a.2.2.2.1<0)) (some (true,a.1,a.2.1,a.2.2.1,a.2.2.2.1,a.2.2.2.2.1,a.2.2.2.2.2.1,a.2.2.2.2.2.2.1,a.2.2.2.2.2.2.2)) (bf (decide (a.2.2.2.1>14609)) (some (true,a.1,a.2.1,a.2.2.1,a.2.2.2.1,a.2.2.2.2.1,a.2.2.2.2.2.1,a.2.2.2.2.2.2.1,a.2.2.2.2.2.2.2)) (bf (decide (a.2.2.2.2.1<0)) (some (true,a.1,a.2.1,a.2.2.1,a.2.2.2.1,a.2.2.2.2.1,a.2.2.2.2.2.1,a.2.2.2.2.2.2.1,a.2.2.2.2.2.2.2)) (bf (decide (a.2.2.2.2.2.1<=a.2.2.2.2.1)) (some (true,a.1,a.2.1,a.2.2.1,a.2.2.2.1,a.2.2.2.2.1,a.2.2.2.2.2.1,a.2.2.2.2.2.2.1,a.2.2.2.2.2.2.2)) (some (decide (a.2.2.2.2.2.1>1402560),a.1,a.2.1,a.2.2.1,a.2.2.2.1,a.2.2.2.2.1,a.2.2.2.2.2.1,a.2.2.2.2.2.2.1,a.2.2.2.2.2.2.2)))))))))) fun b=>bf b.1 (some false) (bf (b.2.1==1) (bc (bf (b.2.2.2.2.2.2.2.1==0) (bc (pB N b.2.2.2.2.2.2.2.2) fun c=>some (c==0)) (some false)) fun d=>some d) (bc (bf ((gX (nY (nY ([]:(List TN)) 2 1000) 3 960) b.2.1).isSome) (bf ((b.2.2.2.2.2.2.2.2.length:Int)==0) (ck .i64 (-((gX (nY (nY ([]:(List TN)) 2 1000) 3 960) b.2.1).getD 0)) (bf (decide (b.2.2.2.2.2.2.2.1≥(-((gX (nY (nY ([]:(List TN)) 2 1000) 3 960) b.2.1).getD 0)))) (some (decide (b.2.2.2.2.2.2.2.1<=((gX (nY (nY ([]:(List TN)) 2 1000) 3 960) b.2.1).getD 0)))) (some false))) (some false)) (some false)) fun e=>some e))
abbrev Rh(N:Nat):br:=⟨132,⟨[(0,dd tA)],[],[]⟩,[⟨[(0,dd .b)],[],[]⟩],cQ N⟩
theorem aI2(N:Nat):aF Tryz.prog (Rh N):=xf N (tc (X7 N) tn) [] [⟨9,true,⟨[(2,dd .b)],[],[]⟩⟩,⟨6,true,⟨[(2,dd .b)],[],[]⟩⟩,⟨2,true,⟨[(1,.ptr (.O 0) 0),(50,dd .b)],[],[some (.box [dd tC,dd tC,dd tC,dd tC,dd tC,dd tC,dd tC,dd (.sl tE)])]⟩⟩] 0 Tryz.func132 rfl (by kernel_rfl) fun a=>by kernel_rfl
def fM(N:Nat)(a b:TH):Option Int:=bc (cX N a.2.1 b.2.1) fun c=>bf (c !=0) (some c) (bc (cX N a.2.2.1 b.2.2.1) fun d=>some d)
abbrev R6(N:Nat):br:=⟨121,⟨[(0,dd tA),(1,dd tA)],[],[]⟩,[⟨[(0,dd tC)],[],[]⟩],fM N⟩
theorem pS(N:Nat):aF Tryz.prog (R6 N):=xf N (tc (nW N) tn) [] [] 0 Tryz.func121 rfl (by kernel_rfl) fun a=>by kernel_rfl
def gS(N:Nat)(rec2:TA->TA->Int->Int->Option Int)(e f:TA)(g b:Int):Option Int:=bf (decide (b<g)) (aZ f b fun a=>bc (bc (cQ N a) fun h=>bf (!h) (some (e,f,g,b,true)) (bf (decide (b>0)) (ck .i64 (b-1) (aZ e (b-1) fun c=>bc (fM N c a) fun i=>some (e,f,g,b,decide (i≥0)))) (some (e,f,g,b,false)))) fun d=>bf d.2.2.2.2 (some (1)) (ck .i64 (d.2.2.2.1+1) (rec2 d.1 d.2.1 d.2.2.1 (d.2.2.2.1+1)))) (some (0))
def jD(N:Nat):Nat->TA->TA->Int->Int->Option Int:=aN [(.sl tA),(.sl tA),tC,tC] (gS N)
def cS(N:Nat)(a:TA):Option Int:=bf (decide ((a.length:Int)>400)) (some (2)) (jD N N a a (a.length:Int) 0)
abbrev Vi(N:Nat):br:=⟨87,⟨[(0,dd (.sl tA))],[],[]⟩,[⟨[(0,dd tC)],[],[]⟩],cS N⟩
theorem wT(N:Nat):aF Tryz.prog (Vi N):=xf N (tc (aI2 N) (tc (pS N) tn)) [] [⟨11,true,⟨[(0,dd (.sl tA)),(8,dd (.sl tA)),(9,dd tC),(10,dd tC),(31,dd .b)],[],[]⟩⟩,⟨6,false,⟨[(0,dd (.sl tA)),(8,dd (.sl tA)),(9,dd tC),(10,dd tC)],[],[]⟩⟩] 0 Tryz.func87 rfl (by kernel_rfl) fun a=>by kernel_rfl
def cW(N:Nat)(a:Int):Option TA:=bf (decide (a<0)) (none) (ck .i64 (0-((0:Nat):Int)) (ck .i64 (a-(0-((0:Nat):Int))) (bf (decide ((a-(0-((0:Nat):Int)))>0)) (az (0<(a-(0-((0:Nat):Int)))) (az (((0+(a-(0-((0:Nat):Int))).toNat)*80)<=140737488355328) (az (((0:Nat):Int).toNat<=(a-(0-((0:Nat):Int))).toNat) (aw (((0:Nat):Int).toNat) (aaq ((0:Nat):Int).toNat (aae (a-(0-((0:Nat):Int))).toNat (0,(0,(0,(0,(0,(0,(0,([]:TE)))))))):TA)) (some (aaq ((0:Nat):Int).toNat (aae (a-(0-((0:Nat):Int))).toNat (0,(0,(0,(0,(0,(0,(0,([]:TE)))))))):TA))))))) (some ([]:TA)))))
abbrev pK(N:Nat):br:=⟨143,⟨[(0,.fln tA),(1,dd tC)],[],[]⟩,[⟨[(0,.slw (.O 0) tA 0)],[],[some (.row true tA [])]⟩],cW N⟩
theorem pJ(N:Nat):aF Tryz.prog (pK N):=xf N tn [22] [] 0 Tryz.func143 rfl (by kernel_rfl) fun a=>by kernel_rfl
def bI(f:TV->Int->Int->TA->Option TA)(d:TV)(e b:Int)(a:TA):Option TA:=bf (decide (b<e)) (aZ d b fun c=>aw a.length a (az (((a.length+c.length)*80)<=140737488355328) (ck .i64 (b+1) (aw ((a++c).length) (a++c) (f d e (b+1) (a++c)))))) (aw a.length a (some a))
def dQ:Nat->TV->Int->Int->TA->Option TA:=aN [tM,tC,tC,(.sl tA)] (bI)
def bK(N:Nat)(rec2:TV->Int->TV->Int->Int->Option TA)(c:TV)(a:Int)(f:TV)(g b:Int):Option TA:=bf (decide (b<g)) (aZ f b fun d=>ck .i64 (a+(d.length:Int)) (bf (decide ((a+(d.length:Int))<0)) (none) (ck .i64 (b+1) (rec2 c (a+(d.length:Int)) f g (b+1))))) (bc (cW N a) fun e=>aw e.length e (dQ N c (c.length:Int) 0 e))
def dO(N:Nat):Nat->TV->Int->TV->Int->Int->Option TA:=aN [tM,tC,tM,tC,tC] (bK N)
def cN(N:Nat)(a:TV):Option TA:=dO N N a 0 a (a.length:Int) 0
abbrev nZ(N:Nat):br:=⟨118,⟨[(0,dd tM)],[],[]⟩,[⟨[(0,.slw (.O 0) tA 0)],[],[some (.row true tA [])]⟩],cN N⟩
theorem oB(N:Nat):aF Tryz.prog (nZ N):=xf N (tc (pJ N) tn) [33] [⟨14,false,⟨[(6,.slw (.O 0) tA 0),(25,dd tM),(26,dd tC),(27,dd tC)],[],[some (.row true tA [])]⟩⟩,⟨4,false,⟨[(0,dd tM),(3,dd tC),(9,dd tM),(10,dd tC),(11,dd tC)],[],[]⟩⟩] 0 Tryz.func118 rfl (by kernel_rfl) fun a=>by kernel_rfl
def dX(N:Nat)(a b:TH):Option Int:=bc (fM N a b) fun c=>some c
abbrev SV(N:Nat):br:=⟨120,⟨[(0,dd tA),(1,dd tA)],[],[]⟩,[⟨[(0,dd tC)],[],[]⟩],dX N⟩
theorem tQ(N:Nat):aF Tryz.prog (SV N):=xf N (tc (pS N) tn) [] [] 0 Tryz.func120 rfl (by kernel_rfl) fun a=>by kernel_rfl
def aT(N:Nat)(rec4:Int->Int->Int->TA->Option TA)(k:Int->Int->Int->Int->TA->Option TA)(h i:Int)(j d:Int)(e:TA):Option TA:=bc (bf (decide (d>h)) (az (0<=d) (az (d<(e.length:Int)) (cr e d.toNat fun f=>ck .i64 (d-1) (az (0<=(d-1)) (az ((d-1)<(e.length:Int)) (cr e ((d-1).toNat) fun g=>bc (dX N f g) fun l=>aw e.length e (some (h,i,j,d,decide (l<0),e)))))))) (aw e.length e (some (h,i,j,d,false,e)))) fun a=>bf a.2.2.2.2.1 (ck .i64 (a.2.2.2.1-1) (ck .i64 (a.2.2.2.1-1) (az (0<=(a.2.2.2.1-1)) (az ((a.2.2.2.1-1)<(a.2.2.2.2.2.length:Int)) (cr a.2.2.2.2.2 ((a.2.2.2.1-1).toNat) fun b=>az (0<=a.2.2.2.1) (az (a.2.2.2.1<(a.2.2.2.2.2.length:Int)) (cr a.2.2.2.2.2 a.2.2.2.1.toNat fun c=>az (0<=a.2.2.2.1) (az (a.2.2.2.1<(a.2.2.2.2.2.length:Int)) (cr a.2.2.2.2.2 a.2.2.2.1.toNat fun m=>az (0<=(a.2.2.2.1-1)) (az ((a.2.2.2.1-1)<(a.2.2.2.2.2.length:Int)) (cr (aaO a.2.2.2.2.2 a.2.2.2.1.toNat b) ((a.2.2.2.1-1).toNat) fun n=>ck .i64 (a.2.2.2.1-1) (aw a.2.2.2.2.2.length (aaO (aaO a.2.2.2.2.2 a.2.2.2.1.toNat b) (a.2.2.2.1-1).toNat c) (k a.1 a.2.1 a.2.2.1 (a.2.2.2.1-1) (aaO (aaO a.2.2.2.2.2 a.2.2.2.1.toNat b) (a.2.2.2.1-1).toNat c)))))))))))))) (ck .i64 (a.2.2.1+1) (aw a.2.2.2.2.2.length a.2.2.2.2.2 (rec4 a.1 a.2.1 (a.2.2.1+1) a.2.2.2.2.2)))
def bM(N:Nat)(rec4:Int->Int->Int->TA->Option TA):Nat->Int->Int->Int->Int->TA->Option TA:=aN [tC,tC,tC,tC,(.sl tA)] (aT N rec4)
def aK(N:Nat)(rec4:Int->Int->Int->TA->Option TA)(d c b:Int)(a:TA):Option TA:=bf (decide (b<c)) (aw a.length a (bM N rec4 N d c b b a)) (some a)
def aO(N:Nat):Nat->Int->Int->Int->TA->Option TA:=aN [tC,tC,tC,(.sl tA)] (aK N)
def aM(N:Nat)(a c:Int)(b:TA):Option TA:=ck .i64 (a+1) (aw b.length b (aO N N a c (a+1) b))
abbrev kT(N:Nat):br:=⟨169,⟨[(0,.slw (.B 0) tA 0),(1,dd tC),(2,dd tC),(3,.clo 120 [])],[some (.row true tA [])],[]⟩,[⟨[],[some (.row true tA [])],[]⟩],aM N⟩
theorem kE(N:Nat):aF Tryz.prog (kT N):=xf N (tc (tQ N) tn) [] [⟨8,true,⟨[(0,.slw (.B 0) tA 0),(1,dd tC),(2,dd tC),(3,.clo 120 []),(8,dd tC),(9,dd tC),(34,dd .b)],[some (.row true tA [])],[]⟩⟩,⟨6,false,⟨[(0,.slw (.B 0) tA 0),(1,dd tC),(2,dd tC),(3,.clo 120 []),(8,dd tC),(9,dd tC)],[some (.row true tA [])],[]⟩⟩,⟨1,false,⟨[(0,.slw (.B 0) tA 0),(1,dd tC),(2,dd tC),(3,.clo 120 []),(8,dd tC)],[some (.row true tA [])],[]⟩⟩] 1 Tryz.func169 rfl (by kernel_rfl) fun a=>by kernel_rfl
def bC(h:Int->Int->Int->Int->TA->Option TA)(d f:Int)(g a:Int)(e:TA):Option TA:=bf (decide (a<g)) (ck .i64 (d+a) (ck .i64 (f+a) (ck .i64 (f+a) (az (0<=(f+a)) (az ((f+a)<(e.length:Int)) (cr e ((f+a).toNat) fun b=>ck .i64 (d+a) (az (0<=(d+a)) (az ((d+a)<(e.length:Int)) (cr e ((d+a).toNat) fun c=>az (0<=(d+a)) (az ((d+a)<(e.length:Int)) (cr e ((d+a).toNat) fun i=>az (0<=(f+a)) (az ((f+a)<(e.length:Int)) (cr (aaO e (d+a).toNat b) ((f+a).toNat) fun j=>ck .i64 (a+1) (aw e.length (aaO (aaO e (d+a).toNat b) (f+a).toNat c) (h d f g (a+1) (aaO (aaO e (d+a).toNat b) (f+a).toNat c)))))))))))))))) (some e)
def cD:Nat->Int->Int->Int->Int->TA->Option TA:=aN [tC,tC,tC,tC,(.sl tA)] (bC)
def aV(N:Nat)(b c d:Int)(a:TA):Option TA:=aw a.length a (cD N b c d 0 a)
abbrev mY(N:Nat):br:=⟨194,⟨[(0,.slw (.B 0) tA 0),(1,dd tC),(2,dd tC),(3,dd tC),(4,.clo 120 [])],[some (.row true tA [])],[]⟩,[⟨[],[some (.row true tA [])],[]⟩],aV N⟩
theorem mX(N:Nat):aF Tryz.prog (mY N):=xf N tn [] [⟨1,false,⟨[(0,.slw (.B 0) tA 0),(1,dd tC),(2,dd tC),(3,dd tC),(10,dd tC)],[some (.row true tA [])],[]⟩⟩] 1 Tryz.func194 rfl (by kernel_rfl) fun a=>by kernel_rfl
def dT(N:Nat)(e:Int->Int->Int->TA->Option TA)(b a c:Int)(d:TA):Option TA:=bf (a !=c) (bf (decide (a>c)) (ck .i64 (b-a) (aw d.length d (bc (aV N (b-a) b c d) fun f=>ck .i64 (a-c) (aw d.length f (e b (a-c) c f))))) (ck .i64 (b-a) (ck .i64 (b+c) (ck .i64 ((b+c)-a) (aw d.length d (bc (aV N (b-a) ((b+c)-a) a d) fun g=>ck .i64 (c-a) (aw d.length g (e b a (c-a) g)))))))) (ck .i64 (b-a) (aw d.length d (bc (aV N (b-a) b a d) fun h=>some h)))
def eA(N:Nat):Nat->Int->Int->Int->TA->Option TA:=aN [tC,tC,tC,(.sl tA)] (dT N)
def cB(N:Nat)(c a d:Int)(b:TA):Option TA:=ck .i64 (a-c) (ck .i64 (d-a) (aw b.length b (eA N N a (a-c) (d-a) b)))
abbrev oO(N:Nat):br:=⟨185,⟨[(0,.slw (.B 0) tA 0),(1,dd tC),(2,dd tC),(3,dd tC),(4,.clo 120 [])],[some (.row true tA [])],[]⟩,[⟨[],[some (.row true tA [])],[]⟩],cB N⟩
theorem oI(N:Nat):aF Tryz.prog (oO N):=xf N (tc (mX N) tn) [5000194] [⟨3,false,⟨[(0,.slw (.B 0) tA 0),(2,dd tC),(4,.clo 120 []),(10,dd tC),(11,dd tC)],[some (.row true tA [])],[]⟩⟩] 1 Tryz.func185 rfl (by kernel_rfl) fun a=>by kernel_rfl
def bF(f:Int->Int->TA->Option TA)(e b:Int)(d:TA):Option TA:=ck .i64 (e-1) (bf (decide (b<(e-1))) (ck .i64 (b+1) (ck .i64 (b+1) (az (0<=(b+1)) (az ((b+1)<(d.length:Int)) (cr d ((b+1).toNat) fun a=>az (0<=b) (az (b<(d.length:Int)) (cr d b.toNat fun c=>az (0<=b) (az (b<(d.length:Int)) (cr d b.toNat fun g=>az (0<=(b+1)) (az ((b+1)<(d.length:Int)) (cr (aaO d b.toNat a) ((b+1).toNat) fun h=>ck .i64 (b+1) (aw d.length (aaO (aaO d b.toNat a) (b+1).toNat c) (f e (b+1) (aaO (aaO d b.toNat a) (b+1).toNat c)))))))))))))) (some d))
def cG:Nat->Int->Int->TA->Option TA:=aN [tC,tC,(.sl tA)] (bF)
def dD(N:Nat)(g:Int->Int->Int->TA->Option TA)(f b c:Int)(a:TA):Option TA:=bf (decide (b<c)) (ck .i64 (b+c) (az (0<=(δ .i64 ((δ .u64 (b+c))/(2^1)))) (az ((δ .i64 ((δ .u64 (b+c))/(2^1)))<(a.length:Int)) (cr a ((δ .i64 ((δ .u64 (b+c))/(2^1))).toNat) fun d=>az (0<=f) (az (f<(a.length:Int)) (cr a f.toNat fun e=>bc (dX N d e) fun h=>bf (decide (h<0)) (ck .i64 ((δ .i64 ((δ .u64 (b+c))/(2^1)))+1) (aw a.length a (g f ((δ .i64 ((δ .u64 (b+c))/(2^1)))+1) c a))) (aw a.length a (g f b (δ .i64 ((δ .u64 (b+c))/(2^1))) a)))))))) (aw a.length a (cG N b f a))
def dF(N:Nat):Nat->Int->Int->Int->TA->Option TA:=aN [tC,tC,tC,(.sl tA)] (dD N)
def bG(f:Int->Int->TA->Option TA)(e b:Int)(d:TA):Option TA:=bf (decide (b>e)) (ck .i64 (b-1) (ck .i64 (b-1) (az (0<=(b-1)) (az ((b-1)<(d.length:Int)) (cr d ((b-1).toNat) fun a=>az (0<=b) (az (b<(d.length:Int)) (cr d b.toNat fun c=>az (0<=b) (az (b<(d.length:Int)) (cr d b.toNat fun g=>az (0<=(b-1)) (az ((b-1)<(d.length:Int)) (cr (aaO d b.toNat a) ((b-1).toNat) fun h=>ck .i64 (b-1) (aw d.length (aaO (aaO d b.toNat a) (b-1).toNat c) (f e (b-1) (aaO (aaO d b.toNat a) (b-1).toNat c)))))))))))))) (some d)
def cF:Nat->Int->Int->TA->Option TA:=aN [tC,tC,(.sl tA)] (bG)
def dB(N:Nat)(g:Int->Int->Int->TA->Option TA)(f b c:Int)(a:TA):Option TA:=bf (decide (b<c)) (ck .i64 (b+c) (az (0<=f) (az (f<(a.length:Int)) (cr a f.toNat fun d=>az (0<=(δ .i64 ((δ .u64 (b+c))/(2^1)))) (az ((δ .i64 ((δ .u64 (b+c))/(2^1)))<(a.length:Int)) (cr a ((δ .i64 ((δ .u64 (b+c))/(2^1))).toNat) fun e=>bc (dX N d e) fun h=>bf (!decide (h<0)) (ck .i64 ((δ .i64 ((δ .u64 (b+c))/(2^1)))+1) (aw a.length a (g f ((δ .i64 ((δ .u64 (b+c))/(2^1)))+1) c a))) (aw a.length a (g f b (δ .i64 ((δ .u64 (b+c))/(2^1))) a)))))))) (aw a.length a (cF N b f a))
def dC(N:Nat):Nat->Int->Int->Int->TA->Option TA:=aN [tC,tC,tC,(.sl tA)] (dB N)
def aS(N:Nat)(au:Nat->Int->Int->Int->TA->Option TA)(rec38:Int->Int->Int->Int->Int->Int->Int->Int->TA->Option TA)(n k:Int)(o p:Int)(l b:Int)(g m:Int)(e:TA):Option TA:=bf (decide (b<g)) (ck .i64 (b+g) (ck .i64 (m-(δ .i64 ((δ .u64 (b+g))/(2^1)))) (az (0<=(m-(δ .i64 ((δ .u64 (b+g))/(2^1))))) (az ((m-(δ .i64 ((δ .u64 (b+g))/(2^1))))<(e.length:Int)) (cr e ((m-(δ .i64 ((δ .u64 (b+g))/(2^1)))).toNat) fun h=>az (0<=(δ .i64 ((δ .u64 (b+g))/(2^1)))) (az ((δ .i64 ((δ .u64 (b+g))/(2^1)))<(e.length:Int)) (cr e ((δ .i64 ((δ .u64 (b+g))/(2^1))).toNat) fun i=>bc (dX N h i) fun s=>bf (!decide (s<0)) (ck .i64 ((δ .i64 ((δ .u64 (b+g))/(2^1)))+1) (aw e.length e (rec38 n k o p l ((δ .i64 ((δ .u64 (b+g))/(2^1)))+1) g m e))) (aw e.length e (rec38 n k o p l b (δ .i64 ((δ .u64 (b+g))/(2^1))) m e))))))))) (ck .i64 (l-b) (bc (bc (bf (decide (b<k)) (aw e.length e (some (n,k,o,p,b,(l-b),decide (k<(l-b)),e))) (aw e.length e (some (n,k,o,p,b,(l-b),false,e)))) fun a=>bf a.2.2.2.2.2.2.1 (aw a.2.2.2.2.2.2.2.length a.2.2.2.2.2.2.2 (bc (cB N a.2.2.2.2.1 a.2.1 a.2.2.2.2.2.1 a.2.2.2.2.2.2.2) fun q=>aw a.2.2.2.2.2.2.2.length q (some (a.1,a.2.2.1,a.2.2.2.1,a.2.2.2.2.1,a.2.2.2.2.2.1,q)))) (aw a.2.2.2.2.2.2.2.length a.2.2.2.2.2.2.2 (some (a.1,a.2.2.1,a.2.2.2.1,a.2.2.2.2.1,a.2.2.2.2.2.1,a.2.2.2.2.2.2.2)))) fun c=>bc (bc (bf (decide (c.1<c.2.2.2.1)) (aw c.2.2.2.2.2.length c.2.2.2.2.2 (some (c.1,c.2.1,c.2.2.1,c.2.2.2.1,c.2.2.2.2.1,decide (c.2.2.2.1<c.2.2.1),c.2.2.2.2.2))) (aw c.2.2.2.2.2.length c.2.2.2.2.2 (some (c.1,c.2.1,c.2.2.1,c.2.2.2.1,c.2.2.2.2.1,false,c.2.2.2.2.2)))) fun d=>bf d.2.2.2.2.2.1 (aw d.2.2.2.2.2.2.length d.2.2.2.2.2.2 (bc (au N d.1 d.2.2.2.1 d.2.2.1 d.2.2.2.2.2.2) fun r=>aw d.2.2.2.2.2.2.length r (some (d.2.1,d.2.2.1,d.2.2.2.2.1,r)))) (aw d.2.2.2.2.2.2.length d.2.2.2.2.2.2 (some (d.2.1,d.2.2.1,d.2.2.2.2.1,d.2.2.2.2.2.2)))) fun f=>bc (bf (decide (f.2.1<f.2.2.1)) (aw f.2.2.2.length f.2.2.2 (some (f.1,f.2.1,f.2.2.1,decide (f.2.2.1<f.1),f.2.2.2))) (aw f.2.2.2.length f.2.2.2 (some (f.1,f.2.1,f.2.2.1,false,f.2.2.2)))) fun j=>bf j.2.2.2.1 (aw j.2.2.2.2.length j.2.2.2.2 (bc (au N j.2.1 j.2.2.1 j.1 j.2.2.2.2) fun t=>some t)) (some j.2.2.2.2)))
def aL(N:Nat)(au:Nat->Int->Int->Int->TA->Option TA):Nat->Int->Int->Int->Int->Int->Int->Int->Int->TA->Option TA:=aN [tC,tC,tC,tC,tC,tC,tC,tC,(.sl tA)] (aS N au)
def dS(N:Nat)(au:Nat->Int->Int->Int->TA->Option TA)(a c b:Int)(d:TA):Option TA:=ck .i64 (c-a) (bf ((c-a)==1) (aw d.length d (dF N N a c b d)) (ck .i64 (b-c) (bf ((b-c)==1) (aw d.length d (dC N N c a c d)) (ck .i64 (a+b) (ck .i64 ((δ .i64 ((δ .u64 (a+b))/(2^1)))+c) (bc (bf (decide (c>(δ .i64 ((δ .u64 (a+b))/(2^1))))) (ck .i64 (((δ .i64 ((δ .u64 (a+b))/(2^1)))+c)-b) (aw d.length d (some (a,c,b,(δ .i64 ((δ .u64 (a+b))/(2^1))),((δ .i64 ((δ .u64 (a+b))/(2^1)))+c),(((δ .i64 ((δ .u64 (a+b))/(2^1)))+c)-b),(δ .i64 ((δ .u64 (a+b))/(2^1))),d)))) (aw d.length d (some (a,c,b,(δ .i64 ((δ .u64 (a+b))/(2^1))),((δ .i64 ((δ .u64 (a+b))/(2^1)))+c),a,c,d)))) fun e=>ck .i64 (e.2.2.2.2.1-1) (aw e.2.2.2.2.2.2.2.length e.2.2.2.2.2.2.2 (aL N au N e.1 e.2.1 e.2.2.1 e.2.2.2.1 e.2.2.2.2.1 e.2.2.2.2.2.1 e.2.2.2.2.2.2.1 (e.2.2.2.2.1-1) e.2.2.2.2.2.2.2))))))))
def au:Nat->Int->Int->Int->TA->Option TA|0=>fun _ _ _ _=>none|N+1=>dS N fun _=>au N
abbrev nO(N:Nat):br:=⟨170,⟨[(0,.slw (.B 0) tA 0),(1,dd tC),(2,dd tC),(3,dd tC),(4,.clo 120 [])],[some (.row true tA [])],[]⟩,[⟨[],[some (.row true tA [])],[]⟩],au N⟩
theorem nB(N:Nat):aF Tryz.prog (nO N):=by induction N with|zero=>(intro _ v r h;cases(show none=some r from h))|succ N ih=>exact xf N (tc (tQ N) (tc (oI N) (tc ih tn))) [5000170,5000185] [⟨51,true,⟨[(0,.slw (.B 0) tA 0),(3,dd tC),(4,.clo 120 []),(18,dd tC),(24,dd tC),(213,dd .b)],[some (.row true tA [])],[]⟩⟩,⟨49,true,⟨[(0,.slw (.B 0) tA 0),(3,dd tC),(4,.clo 120 []),(18,dd tC),(24,dd tC)],[some (.row true tA [])],[]⟩⟩,⟨50,true,⟨[(0,.slw (.B 0) tA 0),(1,dd tC),(3,dd tC),(4,.clo 120 []),(18,dd tC),(20,dd tC),(24,dd tC),(199,dd .b)],[some (.row true tA [])],[]⟩⟩,⟨47,true,⟨[(0,.slw (.B 0) tA 0),(1,dd tC),(3,dd tC),(4,.clo 120 []),(18,dd tC),(20,dd tC),(24,dd tC)],[some (.row true tA [])],[]⟩⟩,⟨48,true,⟨[(0,.slw (.B 0) tA 0),(1,dd tC),(2,dd tC),(3,dd tC),(4,.clo 120 []),(18,dd tC),(20,dd tC),(24,dd tC),(185,dd .b)],[some (.row true tA [])],[]⟩⟩,⟨41,false,⟨[(0,.slw (.B 0) tA 0),(1,dd tC),(2,dd tC),(3,dd tC),(4,.clo 120 []),(18,dd tC),(19,dd tC),(20,dd tC),(21,dd tC),(22,dd tC)],[some (.row true tA [])],[]⟩⟩,⟨35,true,⟨[(0,.slw (.B 0) tA 0),(1,dd tC),(2,dd tC),(3,dd tC),(4,.clo 120 []),(18,dd tC),(19,dd tC),(20,dd tC),(21,dd tC)],[some (.row true tA [])],[]⟩⟩,⟨28,false,⟨[(0,.slw (.B 0) tA 0),(14,dd tC),(17,dd tC)],[some (.row true tA [])],[]⟩⟩,⟨21,false,⟨[(0,.slw (.B 0) tA 0),(2,dd tC),(4,.clo 120 []),(14,dd tC),(15,dd tC)],[some (.row true tA [])],[]⟩⟩,⟨12,false,⟨[(0,.slw (.B 0) tA 0),(10,dd tC),(13,dd tC)],[some (.row true tA [])],[]⟩⟩,⟨5,false,⟨[(0,.slw (.B 0) tA 0),(1,dd tC),(4,.clo 120 []),(10,dd tC),(11,dd tC)],[some (.row true tA [])],[]⟩⟩] 1 Tryz.func170 rfl (by kernel_rfl) fun a=>by kernel_rfl
def dZ(N:Nat)(rec11:Int->Int->TA->Option TA)(i:Int->Int->Int->Int->TA->Option TA)(d a:Int)(c f:Int)(b:TA):Option TA:=bf (decide (f<=d)) (ck .i64 (c+a) (aw b.length b (bc (au N c (c+a) f b) fun g=>ck .i64 (2*a) (ck .i64 (f+(2*a)) (aw b.length g (i d a f (f+(2*a)) g)))))) (bc (ck .i64 (c+a) (bf (decide ((c+a)<d)) (aw b.length b (bc (au N c (c+a) d b) fun h=>aw b.length h (some (d,a,h)))) (aw b.length b (some (d,a,b))))) fun e=>ck .i64 (e.2.1*2) (aw e.2.2.length e.2.2 (rec11 e.1 (e.2.1*2) e.2.2)))
def eH(N:Nat)(rec11:Int->Int->TA->Option TA):Nat->Int->Int->Int->Int->TA->Option TA:=aN [tC,tC,tC,tC,(.sl tA)] (dZ N rec11)
def dW(N:Nat)(rec11:Int->Int->TA->Option TA)(c a:Int)(b:TA):Option TA:=bf (decide (a<c)) (ck .i64 (2*a) (aw b.length b (eH N rec11 N c a 0 (2*a) b))) (some b)
def bP(N:Nat):Nat->Int->Int->TA->Option TA:=aN [tC,tC,(.sl tA)] (dW N)
def eF(N:Nat)(rec3:Int->Int->Int->Int->TA->Option TA)(c d:Int)(e b:Int)(a:TA):Option TA:=bf (decide (b<=c)) (aw a.length a (bc (aM N e b a) fun f=>ck .i64 (b+d) (aw a.length f (rec3 c d b (b+d) f)))) (aw a.length a (bc (aM N e c a) fun g=>aw a.length g (bP N N c d g)))
def eC(N:Nat):Nat->Int->Int->Int->Int->TA->Option TA:=aN [tC,tC,tC,tC,(.sl tA)] (eF N)
def eP(N:Nat)(b:Int)(a:TA):Option TA:=aw a.length a (eC N N b 20 0 20 a)
abbrev oK(N:Nat):br:=⟨144,⟨[(0,.slw (.B 0) tA 0),(1,dd tC),(2,.clo 120 [])],[some (.row true tA [])],[]⟩,[⟨[],[some (.row true tA [])],[]⟩],eP N⟩
theorem oH(N:Nat):aF Tryz.prog (oK N):=xf N (tc (kE N) (tc (nB N) tn)) [5000170,5000169] [⟨19,true,⟨[(0,.slw (.B 0) tA 0),(1,dd tC),(2,.clo 120 []),(6,dd tC)],[some (.row true tA [])],[]⟩⟩,⟨14,false,⟨[(0,.slw (.B 0) tA 0),(1,dd tC),(2,.clo 120 []),(6,dd tC),(7,dd tC),(8,dd tC)],[some (.row true tA [])],[]⟩⟩,⟨9,false,⟨[(0,.slw (.B 0) tA 0),(1,dd tC),(2,.clo 120 []),(6,dd tC)],[some (.row true tA [])],[]⟩⟩,⟨3,false,⟨[(0,.slw (.B 0) tA 0),(1,dd tC),(2,.clo 120 []),(6,dd tC),(7,dd tC),(8,dd tC)],[some (.row true tA [])],[]⟩⟩] 1 Tryz.func144 rfl (by kernel_rfl) fun a=>by kernel_rfl
def bL(N:Nat)(a:TA):Option TA:=aw a.length a (bc (eP N (a.length:Int) a) fun b=>some b)
abbrev jS(N:Nat):br:=⟨119,⟨[(0,.slw (.B 0) tA 0),(1,.clo 120 [])],[some (.row true tA [])],[]⟩,[⟨[],[some (.row true tA [])],[]⟩],bL N⟩
theorem jU(N:Nat):aF Tryz.prog (jS N):=xf N (tc (oH N) tn) [5000144] [] 1 Tryz.func119 rfl (by kernel_rfl) fun a=>by kernel_rfl
def fP(rec3:TE->TE->Int->Int->Option Bool)(d e:TE)(f a:Int):Option Bool:=bf (decide (a<f)) (aZ d a fun b=>aZ e a fun c=>bf (!(oA [(Sh.s 0),(Sh.s 2),(Sh.s 2)] (b.1==c.1) (oA [(Sh.s 2),(Sh.s 2)] (b.2.1==c.2.1) (oA [(Sh.s 2)] (b.2.2.1==c.2.2.1) (oA ([]:(List Sh)) (b.2.2.2==c.2.2.2) true))))) (some false) (ck .i64 (a+1) (rec3 d e f (a+1)))) (some true)
def fO:Nat->TE->TE->Int->Int->Option Bool:=aN [(.sl tE),(.sl tE),tC,tC] (fP)
def gF(N:Nat)(a b:TE):Option Bool:=bf ((a.length:Int)!=(b.length:Int)) (some false) (fO N a b (a.length:Int) 0)
abbrev qU(N:Nat):br:=⟨171,⟨[(0,dd (.sl tE)),(1,dd (.sl tE))],[],[]⟩,[⟨[(0,dd .b)],[],[]⟩],gF N⟩
theorem rR(N:Nat):aF Tryz.prog (qU N):=xf N tn [] [⟨6,false,⟨[(0,dd (.sl tE)),(1,dd (.sl tE)),(12,dd tC),(13,dd tC)],[],[]⟩⟩] 0 Tryz.func171 rfl (by kernel_rfl) fun a=>by kernel_rfl
def lT(N:Nat)(a b:TE):Option Bool:=bc (gF N a b) fun c=>some c
abbrev YN(N:Nat):br:=⟨145,⟨[(0,dd (.w (.sl tE))),(1,dd (.w (.sl tE)))],[],[]⟩,[⟨[(0,dd .b)],[],[]⟩],lT N⟩
theorem U7(N:Nat):aF Tryz.prog (YN N):=xf N (tc (rR N) tn) [] [] 0 Tryz.func145 rfl (by kernel_rfl) fun a=>by kernel_rfl
def iG(N:Nat)(a b:TH):Option Bool:=bc (lT N a.2.2.2.2.2.2.2 b.2.2.2.2.2.2.2) fun c=>bf (!c) (some false) (bc (bf (a.1==b.1) (bf (a.2.1==b.2.1) (bf (a.2.2.1==b.2.2.1) (bf (a.2.2.2.1==b.2.2.2.1) (bf (a.2.2.2.2.1==b.2.2.2.2.1) (bf (a.2.2.2.2.2.1==b.2.2.2.2.2.1) (some (a.2.2.2.2.2.2.1==b.2.2.2.2.2.2.1)) (some false)) (some false)) (some false)) (some false)) (some false)) (some false)) fun d=>some d)
abbrev X9(N:Nat):br:=⟨122,⟨[(0,dd tA),(1,dd tA)],[],[]⟩,[⟨[(0,dd .b)],[],[]⟩],iG N⟩
theorem yR(N:Nat):aF Tryz.prog (X9 N):=xf N (tc (U7 N) tn) [] [⟨4,true,⟨[(4,dd .b)],[],[]⟩⟩] 0 Tryz.func122 rfl (by kernel_rfl) fun a=>by kernel_rfl
def aW(N:Nat)(j:Int->Int->Int->Int->TA->Option TA)(a i:Int)(h d:Int)(b:TA):Option TA:=bf (decide (d<(h.toNat:Int))) (bc (az (0<=d) (az (d<(h.toNat:Int)) (cr b (i.toNat+d.toNat) fun e=>ck .i64 (d-1) (az (0<=(d-1)) (az ((d-1)<(h.toNat:Int)) (cr b (i.toNat+(d-1).toNat) fun f=>bc (iG N e f) fun k=>bf (!k) (az (0<=d) (az (d<(h.toNat:Int)) (cr b (i.toNat+d.toNat) fun c=>az (0<=a) (az (a<(b.length:Int)) (cr b a.toNat fun l=>ck .i64 (a+1) (aw b.length (aaO b a.toNat c) (some ((a+1),(i.toNat:Int),(h.toNat:Int),d,(aaO b a.toNat c))))))))) (aw b.length b (some (a,(i.toNat:Int),(h.toNat:Int),d,b))))))))) fun g=>ck .i64 (g.2.2.2.1+1) (aw g.2.2.2.2.length g.2.2.2.2 (j g.1 (g.2.1.toNat:Int) (g.2.2.1.toNat:Int) (g.2.2.2.1+1) g.2.2.2.2))) (az (0<=a) (az (a.toNat<=b.length) (az (b.length<=b.length) (az ((a.toNat+(b.length-a.toNat))<=b.length) (az (0<=a) (az (a.toNat<=b.length) (aw a.toNat (aaq a.toNat (((aaq a.toNat b)++(aae (b.length-a.toNat) (0,(0,(0,(0,(0,(0,(0,([]:TE)))))))):TA))++(aaD (a.toNat+(b.length-a.toNat)) b))) (some (aaq a.toNat (((aaq a.toNat b)++(aae (b.length-a.toNat) (0,(0,(0,(0,(0,(0,(0,([]:TE)))))))):TA))++(aaD (a.toNat+(b.length-a.toNat)) b)))))))))))
def bQ(N:Nat):Nat->Int->Int->Int->Int->TA->Option TA:=aN [tC,tC,tC,tC,(.sl tA)] (aW N)
def aX(N:Nat)(rec2:Int->TA->Option TA)(b:Int)(a:TA):Option TA:=bf (decide (b<(a.length:Int))) (az (0<=b) (az (b<(a.length:Int)) (cr a b.toNat fun c=>ck .i64 (b-1) (az (0<=(b-1)) (az ((b-1)<(a.length:Int)) (cr a ((b-1).toNat) fun d=>bc (iG N c d) fun e=>bf e (az (0<=b) (az (b.toNat<=a.length) (az (a.length<=a.length) (aw a.length a (bQ N N b (b.toNat:Int) (((a.length-b.toNat):Nat):Int) 1 a))))) (ck .i64 (b+1) (aw a.length a (rec2 (b+1) a))))))))) (aw a.length a (some a))
def bO(N:Nat):Nat->Int->TA->Option TA:=aN [tC,(.sl tA)] (aX N)
def bV(N:Nat)(a:TA):Option TA:=bf (decide ((a.length:Int)<2)) (aw a.length a (some a)) (aw a.length a (bO N N 1 a))
abbrev kZ(N:Nat):br:=⟨123,⟨[(0,.slw (.B 0) tA 0),(1,.clo 122 [])],[some (.row true tA [])],[]⟩,[⟨[(0,.slw (.O 0) tA 0)],[none],[some (.row true tA [])]⟩],bV N⟩
theorem lE(N:Nat):aF Tryz.prog (kZ N):=xf N (tc (yR N) tn) [] [⟨17,true,⟨[(0,.slw (.O 0) tA 0),(1,.clo 122 []),(5,dd tC),(6,.sl (.O 0) tA 0 0),(7,dd tC)],[none],[some (.row true tA [])]⟩⟩,⟨14,false,⟨[(0,.slw (.O 0) tA 0),(1,.clo 122 []),(5,dd tC),(6,.sl (.O 0) tA 0 0),(7,dd tC)],[none],[some (.row true tA [])]⟩⟩,⟨6,false,⟨[(0,.slw (.O 0) tA 0),(1,.clo 122 []),(5,dd tC)],[none],[some (.row true tA [])]⟩⟩] 0 Tryz.func123 rfl (by kernel_rfl) fun a=>by kernel_rfl
def eG(N:Nat)(i:Int->TA->Option TS)(b:Int)(a:TA):Option TS:=bf (decide (b<(a.length:Int))) (bc (ck .i64 (b-1) (az (0<=(b-1)) (az ((b-1)<(a.length:Int)) (cr a ((b-1).toNat) fun c=>az (0<=b) (az (b<(a.length:Int)) (cr a b.toNat fun d=>bc (fM N c d) fun j=>bf (j==0) (ck .i64 (b-1) (az (0<=(b-1)) (az ((b-1)<(a.length:Int)) (cr a ((b-1).toNat) fun e=>az (0<=b) (az (b<(a.length:Int)) (cr a b.toNat fun f=>bc (iG N e f) fun k=>aw a.length a (some (b,(!k),a)))))))) (aw a.length a (some (b,false,a))))))))) fun g=>bf g.2.1 (some (24,([]:TA))) (ck .i64 (g.1+1) (aw g.2.2.length g.2.2 (i (g.1+1) g.2.2)))) (aw a.length a (bc (bV N a) fun h=>bf (decide ((h.length:Int)>400)) (some (2,([]:TA))) (aw h.length h (some (0,h)))))
def fK(N:Nat):Nat->Int->TA->Option TS:=aN [tC,(.sl tA)] (eG N)
def gV(N:Nat)(rec3:TA->TA->Int->Int->TV->Option TS)(d e:TA)(f a:Int)(b:TV):Option TS:=bf (decide (a<f)) (az (0<=a) (az (a<(b.length:Int)) (cr b a.toNat fun i=>bc (cS N i) fun g=>bf (g !=0) (some (g,([]:TA))) (ck .i64 (a+1) (aw b.length b (rec3 d e f (a+1) b)))))) (bc (cN N [d,e]) fun c=>aw c.length c (bc (bL N c) fun h=>aw c.length h (fK N N 1 h)))
def nN(N:Nat):Nat->TA->TA->Int->Int->TV->Option TS:=aN [(.sl tA),(.sl tA),tC,tC,tM] (gV N)
def cP(N:Nat)(a b:TA):Option TS:=nN N N a b (([(Operand.tmp 11),(Operand.tmp 12)].length:Nat):Int) 0 [a,b]
abbrev Sl(N:Nat):br:=⟨67,⟨[(0,dd (.sl tA)),(1,dd (.sl tA))],[],[]⟩,[⟨[(0,.slw (.O 0) tA 0),(1,dd tC)],[],[some (.row true tA [])]⟩],cP N⟩
theorem xH(N:Nat):aF Tryz.prog (Sl N):=xf N (tc (wT N) (tc (oB N) (tc (jU N) (tc (pS N) (tc (yR N) (tc (lE N) tn)))))) [5000123,5000119] [⟨19,true,⟨[(9,.slw (.O 0) tA 0),(10,dd tC),(60,dd .b)],[],[some (.row true tA [])]⟩⟩,⟨15,false,⟨[(9,.slw (.O 0) tA 0),(10,dd tC)],[],[some (.row true tA [])]⟩⟩,⟨3,false,⟨[(0,dd (.sl tA)),(1,dd (.sl tA)),(13,.slw (.O 0) (.sl tA) 0),(14,dd tC),(15,dd tC)],[],[some (.row true (.sl tA) [])]⟩⟩] 0 Tryz.func67 rfl (by kernel_rfl) fun a=>by kernel_rfl
def dY(N:Nat)(a b c:Int):Option Bool:=bc (bf (decide (a≥b)) (some (decide (a<=c))) (some false)) fun d=>some d
abbrev W6(N:Nat):br:=⟨149,⟨[(0,dd tC),(1,dd tC),(2,dd tC)],[],[]⟩,[⟨[(0,dd .b)],[],[]⟩],dY N⟩
theorem aD1(N:Nat):aF Tryz.prog (W6 N):=xf N tn [] [⟨1,true,⟨[(6,dd .b)],[],[]⟩⟩] 0 Tryz.func149 rfl (by kernel_rfl) fun a=>by kernel_rfl
def gN(N:Nat)(a:TB):Option Bool:=bc (bc (dY N a.1 0 39) fun b=>bf b (bc (dY N a.2.1 0 1099511627776) fun c=>bf c (bf (decide (a.2.2.1≥0)) (bf (decide (a.2.2.1<a.2.2.2.1)) (bf (decide (a.2.2.2.1<=1402560)) (bc (dY N a.2.2.2.2.1 0 1000) fun d=>bf d (bc (dY N a.2.2.2.2.2 0 14609) fun e=>some e) (some false)) (some false)) (some false)) (some false)) (some false)) (some false)) fun f=>some f
abbrev S3(N:Nat):br:=⟨131,⟨[(0,dd tB)],[],[]⟩,[⟨[(0,dd .b)],[],[]⟩],gN N⟩
theorem X4(N:Nat):aF Tryz.prog (S3 N):=xf N (tc (aD1 N) tn) [] [⟨2,true,⟨[(2,dd .b)],[],[]⟩⟩] 0 Tryz.func131 rfl (by kernel_rfl) fun a=>by kernel_rfl
def rE(rec2:Int->TC->Int->Int->Option Int)(b:Int)(c:TC)(d a:Int):Option Int:=bf (decide (a<d)) (aZ c a fun e=>bf (e !=b) (some e) (ck .i64 (a+1) (rec2 b c d (a+1)))) (some b)
def rJ:Nat->Int->TC->Int->Int->Option Int:=aN [tC,(.sl tC),tC,tC] (rE)
def qH(N:Nat)(a:TC):Option Int:=rJ N 0 a (a.length:Int) 0
abbrev S8(N:Nat):br:=⟨141,⟨[(0,dd (.sl tC))],[],[]⟩,[⟨[(0,dd tC)],[],[]⟩],qH N⟩
theorem QT(N:Nat):aF Tryz.prog (S8 N):=xf N tn [] [⟨4,false,⟨[(3,dd tC),(6,dd (.sl tC)),(7,dd tC),(8,dd tC)],[],[]⟩⟩] 0 Tryz.func141 rfl (by kernel_rfl) fun a=>by kernel_rfl
def eK(N:Nat)(a b:TB):Option Int:=bc (cX N a.1 b.1) fun c=>bc (cX N a.2.1 b.2.1) fun d=>bc (qH N [c,d]) fun e=>some e
abbrev T0(N:Nat):br:=⟨116,⟨[(0,dd tB),(1,dd tB)],[],[]⟩,[⟨[(0,dd tC)],[],[]⟩],eK N⟩
theorem xE(N:Nat):aF Tryz.prog (T0 N):=xf N (tc (nW N) (tc (QT N) tn)) [] [] 0 Tryz.func116 rfl (by kernel_rfl) fun a=>by kernel_rfl
def gU(N:Nat)(rec2:TG->TG->Int->Int->Option Int)(e f:TG)(g b:Int):Option Int:=bf (decide (b<g)) (aZ f b fun a=>bc (bc (gN N a) fun h=>bf (!h) (some (e,f,g,b,true)) (bf (decide (b>0)) (ck .i64 (b-1) (aZ e (b-1) fun c=>bc (eK N c a) fun i=>some (e,f,g,b,decide (i≥0)))) (some (e,f,g,b,false)))) fun d=>bf d.2.2.2.2 (some (1)) (ck .i64 (d.2.2.2.1+1) (rec2 d.1 d.2.1 d.2.2.1 (d.2.2.2.1+1)))) (some (0))
def jP(N:Nat):Nat->TG->TG->Int->Int->Option Int:=aN [(.sl tB),(.sl tB),tC,tC] (gU N)
def iW(N:Nat)(a:TG):Option Int:=bf (decide ((a.length:Int)>4000)) (some (2)) (jP N N a a (a.length:Int) 0)
abbrev Yt(N:Nat):br:=⟨86,⟨[(0,dd (.sl tB))],[],[]⟩,[⟨[(0,dd tC)],[],[]⟩],iW N⟩
theorem xM(N:Nat):aF Tryz.prog (Yt N):=xf N (tc (X4 N) (tc (xE N) tn)) [] [⟨11,true,⟨[(0,dd (.sl tB)),(8,dd (.sl tB)),(9,dd tC),(10,dd tC),(31,dd .b)],[],[]⟩⟩,⟨6,false,⟨[(0,dd (.sl tB)),(8,dd (.sl tB)),(9,dd tC),(10,dd tC)],[],[]⟩⟩] 0 Tryz.func86 rfl (by kernel_rfl) fun a=>by kernel_rfl
def fJ(N:Nat)(b a:TB):Option Bool:=some (lZ [1,1,1,1,1] (b.1==a.1) (lZ [1,1,1,1] (b.2.1==a.2.1) (lZ [1,1,1] (b.2.2.1==a.2.2.1) (lZ [1,1] (b.2.2.2.1==a.2.2.2.1) (lZ [1] (b.2.2.2.2.1==a.2.2.2.2.1) (lZ ([]:(List Nat)) (a.2.2.2.2.2==a.2.2.2.2.2) true))))))
abbrev aDn(N:Nat):br:=⟨117,⟨[(0,dd tB),(1,dd tB)],[],[]⟩,[⟨[(0,dd .b)],[],[]⟩],fJ N⟩
theorem XX(N:Nat):aF Tryz.prog (aDn N):=xf N tn [] [] 0 Tryz.func117 rfl (by kernel_rfl) fun a=>by kernel_rfl
def jH(N:Nat)(rec11:TG->TG->TG->Option TT)(k l f:TG):Option TT:=bc (bf (decide ((k.length:Int)>0)) (aw f.length f (some (k,l,decide ((l.length:Int)>0),f))) (aw f.length f (some (k,l,false,f)))) fun a=>bf a.2.2.1 (aZ a.1 (0) fun g=>aZ a.2.1 (0) fun h=>bc (eK N g h) fun m=>bf (decide (m<0)) (aZ a.1 (0) fun c=>aw a.2.2.2.length a.2.2.2 (az (((a.2.2.2.length+[c].length)*48)<=140737488355328) (az (1<=a.1.length) (az (a.1.length<=a.1.length) (aw ((a.2.2.2++[c]).length) (a.2.2.2++[c]) (rec11 (aaq (a.1.length-1) (aaD 1 a.1)) a.2.1 (a.2.2.2++[c]))))))) (bf (decide (m>0)) (aZ a.2.1 (0) fun d=>aw a.2.2.2.length a.2.2.2 (az (((a.2.2.2.length+[d].length)*48)<=140737488355328) (az (1<=a.2.1.length) (az (a.2.1.length<=a.2.1.length) (aw ((a.2.2.2++[d]).length) (a.2.2.2++[d]) (rec11 a.1 (aaq (a.2.1.length-1) (aaD 1 a.2.1)) (a.2.2.2++[d]))))))) (aZ a.1 (0) fun i=>aZ a.2.1 (0) fun j=>bc (fJ N i j) fun n=>bf (!n) (some (24,([]:TG))) (aZ a.1 (0) fun b=>aZ a.2.1 (0) fun e=>az (b.1=b.1) (az (b.2.1=b.2.1) (az (b.2.2.1=b.2.2.1) (az (b.2.2.2.1=b.2.2.2.1) (az (b.2.2.2.2.1=b.2.2.2.2.1) (az ((Min.min b.2.2.2.2.2 e.2.2.2.2.2)=(Min.min b.2.2.2.2.2 e.2.2.2.2.2)) (aw a.2.2.2.length a.2.2.2 (az (((a.2.2.2.length+[(b.1,(b.2.1,(b.2.2.1,(b.2.2.2.1,(b.2.2.2.2.1,(Min.min b.2.2.2.2.2 e.2.2.2.2.2))))))].length)*48)<=140737488355328) (az (b.1=b.1) (az (b.2.1=b.2.1) (az (b.2.2.1=b.2.2.1) (az (b.2.2.2.1=b.2.2.2.1) (az (b.2.2.2.2.1=b.2.2.2.2.1) (az ((Min.min b.2.2.2.2.2 e.2.2.2.2.2)=(Min.min b.2.2.2.2.2 e.2.2.2.2.2)) (az (1<=a.1.length) (az (a.1.length<=a.1.length) (az (1<=a.2.1.length) (az (a.2.1.length<=a.2.1.length) (aw ((a.2.2.2++[(b.1,(b.2.1,(b.2.2.1,(b.2.2.2.1,(b.2.2.2.2.1,(Min.min b.2.2.2.2.2 e.2.2.2.2.2))))))]).length) (a.2.2.2++[(b.1,(b.2.1,(b.2.2.1,(b.2.2.2.1,(b.2.2.2.2.1,(Min.min b.2.2.2.2.2 e.2.2.2.2.2))))))]) (rec11 (aaq (a.1.length-1) (aaD 1 a.1)) (aaq (a.2.1.length-1) (aaD 1 a.2.1)) (a.2.2.2++[(b.1,(b.2.1,(b.2.2.1,(b.2.2.2.1,(b.2.2.2.2.1,(Min.min b.2.2.2.2.2 e.2.2.2.2.2))))))])))))))))))))))))))))))) (aw a.2.2.2.length a.2.2.2 (az (((a.2.2.2.length+a.1.length)*48)<=140737488355328) (aw ((a.2.2.2++a.1).length) (a.2.2.2++a.1) (az ((((a.2.2.2++a.1).length+a.2.1.length)*48)<=140737488355328) (bf (decide (((((a.2.2.2++a.1)++a.2.1).length:Nat):Int)>4000)) (some (2,([]:TG))) (aw (((a.2.2.2++a.1)++a.2.1).length) ((a.2.2.2++a.1)++a.2.1) (some (0,((a.2.2.2++a.1)++a.2.1)))))))))
def cK(N:Nat):Nat->TG->TG->TG->Option TT:=aN [(.sl tB),(.sl tB),(.sl tB)] (jH N)
def gR(N:Nat)(rec3:TG->TG->Int->Int->(List TG)->Option TT)(c d:TG)(e a:Int)(b:(List TG)):Option TT:=bf (decide (a<e)) (az (0<=a) (az (a<(b.length:Int)) (cr b a.toNat fun g=>bc (iW N g) fun f=>bf (f !=0) (some (f,([]:TG))) (ck .i64 (a+1) (aw b.length b (rec3 c d e (a+1) b)))))) (cK N N c d ([]:TG))
def nX(N:Nat):Nat->TG->TG->Int->Int->(List TG)->Option TT:=aN [(.sl tB),(.sl tB),tC,tC,(.sl (.sl tB))] (gR N)
def cZ(N:Nat)(a b:TG):Option TT:=nX N N a b (([(Operand.tmp 12),(Operand.tmp 13)].length:Nat):Int) 0 [a,b]
abbrev Ui(N:Nat):br:=⟨66,⟨[(0,dd (.sl tB)),(1,dd (.sl tB))],[],[]⟩,[⟨[(0,.slw (.O 0) tB 0),(1,dd tC)],[],[some (.row true tB [])]⟩],cZ N⟩
theorem xC(N:Nat):aF Tryz.prog (Ui N):=xf N (tc (xM N) (tc (xE N) (tc (XX N) tn))) [3000065,3000066,3000070,3000076,3000077,3000081,53,3000057,3000059,68,79,55,95,93] [⟨15,true,⟨[(0,dd (.sl tB)),(1,dd (.sl tB)),(9,.slw (.O 0) tB 0),(33,dd .b)],[],[some (.row true tB [])]⟩⟩,⟨13,false,⟨[(0,dd (.sl tB)),(1,dd (.sl tB)),(9,.slw (.O 0) tB 0)],[],[some (.row true tB [])]⟩⟩,⟨3,false,⟨[(0,dd (.sl tB)),(1,dd (.sl tB)),(14,.slw (.O 0) (.sl tB) 0),(15,dd tC),(16,dd tC)],[],[some (.row true (.sl tB) [])]⟩⟩] 0 Tryz.func66 rfl (by kernel_rfl) fun a=>by kernel_rfl
def lO(N:Nat)(a:Int):Option Bool:=bc (bf (decide (a≥0)) (some (decide (a<=14609))) (some false)) fun b=>some b
abbrev W5(N:Nat):br:=⟨38,⟨[(0,dd tC)],[],[]⟩,[⟨[(0,dd .b)],[],[]⟩],lO N⟩
theorem PX(N:Nat):aF Tryz.prog (W5 N):=xf N tn [] [⟨1,true,⟨[(2,dd .b)],[],[]⟩⟩] 0 Tryz.func38 rfl (by kernel_rfl) fun a=>by kernel_rfl
def gM(N:Nat)(b:TG)(c:TA):Option Int:=bc (iW N b) fun a=>bf (a !=0) (some a) (bc (cS N c) fun d=>some d)
abbrev xF(N:Nat):br:=⟨37,⟨[(0,dd (.sl tB)),(1,dd (.sl tA))],[],[]⟩,[⟨[(0,dd tC)],[],[]⟩],gM N⟩
theorem pM(N:Nat):aF Tryz.prog (xF N):=xf N (tc (xM N) (tc (wT N) tn)) [] [] 0 Tryz.func37 rfl (by kernel_rfl) fun a=>by kernel_rfl
def nC(N:Nat)(b:TB)(a:Int)(c:TG)(d:TA):Option (Bool×TF):=some ((b.2.2.2.2.2!=a),(a,(c,d)))
abbrev QL(N:Nat):br:=⟨63,⟨[(0,dd tB),(1,.ptr (.B 0) 0)],[some (.box [dd tC,dd (.sl tB),dd (.sl tA)])],[]⟩,[⟨[(0,dd .b)],[some (.box [dd tC,dd (.sl tB),dd (.sl tA)])],[]⟩],nC N⟩
theorem aEy(N:Nat):aF Tryz.prog (QL N):=xf N tn [] [] 1 Tryz.func63 rfl (by kernel_rfl) fun a=>by kernel_rfl
def bX(N:Nat)(i:TG->Int->Int->Int->TG->TA->Option ve)(d:TG)(e c f:Int)(g:TG)(h:TA):Option ve:=bf (decide (c<e)) (aZ d c fun b=>bc (nC N b f g h) fun a=>bf a.1 (some (c,a.2)) (ck .i64 (c+1) (i d e (c+1) a.2.1 a.2.2.1 a.2.2.2))) (some ((-1),(f,(g,h))))
def bZ(N:Nat):Nat->TG->Int->Int->Int->TG->TA->Option ve:=aN [(.sl tB),tC,tC,tC,(.sl tB),(.sl tA)] (bX N)
def dI(N:Nat)(a:TG)(b:Int)(c:TG)(d:TA):Option ve:=bZ N N a (a.length:Int) 0 b c d
abbrev mD(N:Nat):br:=⟨114,⟨[(0,dd (.sl tB)),(1,.clo 63 [.ptr (.B 0) 0])],[some (.box [dd tC,dd (.sl tB),dd (.sl tA)])],[]⟩,[⟨[(0,dd tC)],[some (.box [dd tC,dd (.sl tB),dd (.sl tA)])],[]⟩],dI N⟩
theorem mE(N:Nat):aF Tryz.prog (mD N):=xf N (tc (aEy N) tn) [16,5000063] [⟨3,false,⟨[(0,dd (.sl tB)),(1,.clo 63 [.ptr (.B 0) 0]),(7,dd tC),(8,dd tC)],[some (.box [dd tC,dd (.sl tB),dd (.sl tA)])],[]⟩⟩] 1 Tryz.func114 rfl (by kernel_rfl) fun a=>by kernel_rfl
def bS(N:Nat)(b:TG)(c:Int)(d:TG)(e:TA):Option (Bool×TF):=bc (dI N b c d e) fun a=>some (decide (a.1≥0),a.2)
abbrev kC(N:Nat):br:=⟨62,⟨[(0,dd (.sl tB)),(1,.clo 63 [.ptr (.B 0) 0])],[some (.box [dd tC,dd (.sl tB),dd (.sl tA)])],[]⟩,[⟨[(0,dd .b)],[some (.box [dd tC,dd (.sl tB),dd (.sl tA)])],[]⟩],bS N⟩
theorem kN(N:Nat):aF Tryz.prog (kC N):=xf N (tc (mE N) tn) [5000114] [] 1 Tryz.func62 rfl (by kernel_rfl) fun a=>by kernel_rfl
def nR(N:Nat)(b:TH)(a:Int)(c:TG)(d:TA):Option (Bool×TF):=some ((b.2.2.2.1!=a),(a,(c,d)))
abbrev RQ(N:Nat):br:=⟨65,⟨[(0,dd tA),(1,.ptr (.B 0) 0)],[some (.box [dd tC,dd (.sl tB),dd (.sl tA)])],[]⟩,[⟨[(0,dd .b)],[some (.box [dd tC,dd (.sl tB),dd (.sl tA)])],[]⟩],nR N⟩
theorem RK(N:Nat):aF Tryz.prog (RQ N):=xf N tn [] [] 1 Tryz.func65 rfl (by kernel_rfl) fun a=>by kernel_rfl
def cA(N:Nat)(i:TA->Int->Int->Int->TG->TA->Option ve)(d:TA)(e c f:Int)(g:TG)(h:TA):Option ve:=bf (decide (c<e)) (aZ d c fun a=>bc (nR N a f g h) fun b=>bf b.1 (some (c,b.2)) (ck .i64 (c+1) (i d e (c+1) b.2.1 b.2.2.1 b.2.2.2))) (some ((-1),(f,(g,h))))
def bW(N:Nat):Nat->TA->Int->Int->Int->TG->TA->Option ve:=aN [(.sl tA),tC,tC,tC,(.sl tB),(.sl tA)] (cA N)
def dH(N:Nat)(a:TA)(b:Int)(c:TG)(d:TA):Option ve:=bW N N a (a.length:Int) 0 b c d
abbrev mH(N:Nat):br:=⟨115,⟨[(0,dd (.sl tA)),(1,.clo 65 [.ptr (.B 0) 0])],[some (.box [dd tC,dd (.sl tB),dd (.sl tA)])],[]⟩,[⟨[(0,dd tC)],[some (.box [dd tC,dd (.sl tB),dd (.sl tA)])],[]⟩],dH N⟩
theorem mJ(N:Nat):aF Tryz.prog (mH N):=xf N (tc (RK N) tn) [16,5000065] [⟨3,false,⟨[(0,dd (.sl tA)),(1,.clo 65 [.ptr (.B 0) 0]),(7,dd tC),(8,dd tC)],[some (.box [dd tC,dd (.sl tB),dd (.sl tA)])],[]⟩⟩] 1 Tryz.func115 rfl (by kernel_rfl) fun a=>by kernel_rfl
def bT(N:Nat)(b:TA)(c:Int)(d:TG)(e:TA):Option (Bool×TF):=bc (dH N b c d e) fun a=>some (decide (a.1≥0),a.2)
abbrev kF(N:Nat):br:=⟨64,⟨[(0,dd (.sl tA)),(1,.clo 65 [.ptr (.B 0) 0])],[some (.box [dd tC,dd (.sl tB),dd (.sl tA)])],[]⟩,[⟨[(0,dd .b)],[some (.box [dd tC,dd (.sl tB),dd (.sl tA)])],[]⟩],bT N⟩
theorem kO(N:Nat):aF Tryz.prog (kF N):=xf N (tc (mJ N) tn) [5000115] [] 1 Tryz.func64 rfl (by kernel_rfl) fun a=>by kernel_rfl
def cR(N:Nat)(a:TF):Option Int:=bc (lO N a.1) fun d=>bf (!d) (some (3)) (bc (gM N a.2.1 a.2.2) fun c=>bf (c !=0) (some c) (bc (bc (bS N a.2.1 a.1 a.2.1 a.2.2) fun b=>bf b.1 (some true) (bc (bT N b.2.2.2 b.2.1 b.2.2.1 b.2.2.2) fun e=>some e.1)) fun f=>bf f (some (1)) (some (0))))
abbrev Tr(N:Nat):br:=⟨22,⟨[(0,dd tD)],[],[]⟩,[⟨[(0,dd tC)],[],[]⟩],cR N⟩
theorem lV(N:Nat):aF Tryz.prog (Tr N):=xf N (tc (PX N) (tc (pM N) (tc (kN N) (tc (kO N) tn)))) [5000064,5000062] [⟨9,true,⟨[(25,dd .b)],[],[]⟩⟩] 0 Tryz.func22 rfl (by kernel_rfl) fun a=>by kernel_rfl
def nV(N:Nat)(a b:TF):Option Int:=bc (cR N a) fun c=>bf (c !=0) (some c) (bc (cR N b) fun d=>bf (d !=0) (some d) (bf (a.1!=b.1) (some (1)) (some (0))))
abbrev Ys(N:Nat):br:=⟨71,⟨[(0,dd tD),(1,dd tD)],[],[]⟩,[⟨[(0,dd tC)],[],[]⟩],nV N⟩
theorem rW(N:Nat):aF Tryz.prog (Ys N):=xf N (tc (lV N) tn) [] [] 0 Tryz.func71 rfl (by kernel_rfl) fun a=>by kernel_rfl
def wX(N:Nat)(a b:TF):Option TO:=bc (nV N a b) fun e=>bf (e !=0) (some (0,(([]:TG),(([]:TA),e)))) (bc (cZ N a.2.1 b.2.1) fun c=>bf (c.1!=0) (some (0,(([]:TG),(([]:TA),c.1)))) (bc (cP N a.2.2 b.2.2) fun d=>bf (d.1!=0) (some (0,(([]:TG),(([]:TA),d.1)))) (aw c.2.length c.2 (aw d.2.length d.2 (some (a.1,(c.2,(d.2,0))))))))
abbrev Sj(N:Nat):br:=⟨28,⟨[(0,dd tD),(1,dd tD)],[],[]⟩,[⟨[(0,.agg [dd tC,dd (.sl tB),dd (.sl tA)]),(1,dd tC)],[],[]⟩],wX N⟩
theorem Ub(N:Nat):aF Tryz.prog (Sj N):=xf N (tc (rW N) (tc (xC N) (tc (xH N) tn))) [] [] 0 Tryz.func28 rfl (by kernel_rfl) fun a=>by kernel_rfl
def kI(N:Nat)(rec2:TL->Int->Int->TG->TA->Option TF)(g:TL)(h f:Int)(a:TG)(b:TA):Option TF:=bf (decide (f<h)) (aZ g f fun c=>bc (cR N c) fun i=>bf (i !=0) (some (i,(([]:TG),([]:TA)))) (aw a.length a (bc (cZ N a c.2.1) fun d=>bf (d.1!=0) (some (d.1,(([]:TG),([]:TA)))) (aw b.length b (bc (cP N b c.2.2) fun e=>bf (e.1!=0) (some (e.1,(([]:TG),([]:TA)))) (ck .i64 (f+1) (aw d.2.length d.2 (aw e.2.length e.2 (rec2 g h (f+1) d.2 e.2))))))))) (aw a.length a (aw b.length b (some (0,(a,b)))))
def kG(N:Nat):Nat->TL->Int->Int->TG->TA->Option TF:=aN [(.sl tD),tC,tC,(.sl tB),(.sl tA)] (kI N)
def kB(N:Nat)(a:TL):Option TF:=kG N N a (a.length:Int) 0 ([]:TG) ([]:TA)
abbrev Un(N:Nat):br:=⟨24,⟨[(0,dd (.sl tD))],[],[]⟩,[⟨[(0,.slw (.O 0) tB 0),(1,.slw (.O 1) tA 0),(2,dd tC)],[],[some (.row true tB []),some (.row true tA [])]⟩],kB N⟩
theorem yG(N:Nat):aF Tryz.prog (Un N):=xf N (tc (lV N) (tc (xC N) (tc (xH N) tn))) [] [⟨3,false,⟨[(2,.slw (.O 0) tB 0),(3,.slw (.O 1) tA 0),(8,dd (.sl tD)),(9,dd tC),(10,dd tC)],[],[some (.row true tB []),some (.row true tA [])]⟩⟩] 0 Tryz.func24 rfl (by kernel_rfl) fun a=>by kernel_rfl
def Zi(rec2:Int->TC->Option TC)(b:Int)(a:TC):Option TC:=bf (decide (b>127)) (aw a.length a (az (((a.length+[(bits .or .u8 (δ .u8 b) 128)].length)*1)<=140737488355328) (aw ((a++[(bits .or .u8 (δ .u8 b) 128)]).length) (a++[(bits .or .u8 (δ .u8 b) 128)]) (rec2 (b/(2^7)) (a++[(bits .or .u8 (δ .u8 b) 128)]))))) (aw a.length a (az (((a.length+[(δ .u8 b)].length)*1)<=140737488355328) (aw ((a++[(δ .u8 b)]).length) (a++[(δ .u8 b)]) (some (a++[(δ .u8 b)])))))
def Vd:Nat->Int->TC->Option TC:=aN [tK,tH] (Zi)
def jX(N:Nat)(a:Int):Option TC:=Vd N (bits .xor .u64 (δ .u64 ((δ .u64 a)*(2^1))) (δ .u64 (a/(2^63)))) ([]:TC)
abbrev Tl(N:Nat):br:=⟨42,⟨[(0,dd tC)],[],[]⟩,[⟨[(0,.slw (.O 0) (.i .u8) 0)],[],[some (.row true (.i .u8) [])]⟩],jX N⟩
theorem sC(N:Nat):aF Tryz.prog (Tl N):=xf N tn [21,26] [⟨4,false,⟨[(3,dd tK),(4,.slw (.O 0) (.i .u8) 0)],[],[some (.row true (.i .u8) [])]⟩⟩] 0 Tryz.func42 rfl (by kernel_rfl) fun a=>by kernel_rfl
def ZR(N:Nat)(rec3:TC->Int->Int->TC->Option TC)(d:TC)(e c:Int)(a:TC):Option TC:=bf (decide (c<e)) (aZ d c fun f=>bc (jX N f) fun b=>aw a.length a (aw b.length b (az (((a.length+b.length)*1)<=140737488355328) (ck .i64 (c+1) (aw ((a++b).length) (a++b) (rec3 d e (c+1) (a++b))))))) (aw a.length a (some a))
def U4(N:Nat):Nat->TC->Int->Int->TC->Option TC:=aN [(.sl tC),tC,tC,tH] (ZR N)
def wW(N:Nat)(a:TC):Option TC:=bc (jX N (a.length:Int)) fun b=>aw b.length b (U4 N N a (a.length:Int) 0 b)
abbrev aI0(N:Nat):br:=⟨172,⟨[(0,dd (.sl tC)),(1,.clo 42 [])],[],[]⟩,[⟨[(0,.slw (.O 0) (.i .u8) 0)],[],[some (.row true (.i .u8) [])]⟩],wW N⟩
theorem Vn(N:Nat):aF Tryz.prog (aI0 N):=xf N (tc (sC N) tn) [21] [⟨4,false,⟨[(1,.clo 42 []),(5,.slw (.O 0) (.i .u8) 0),(11,dd (.sl tC)),(12,dd tC),(13,dd tC)],[],[some (.row true (.i .u8) [])]⟩⟩] 0 Tryz.func172 rfl (by kernel_rfl) fun a=>by kernel_rfl
def L8(N:Nat)(b:TC):Option TC:=bc (wW N b) fun a=>aw a.length a (some a)
abbrev aU4(N:Nat):br:=⟨146,⟨[(0,dd (.sl tC))],[],[]⟩,[⟨[(0,.slw (.O 0) (.i .u8) 0)],[],[some (.row true (.i .u8) [])]⟩],L8 N⟩
theorem aUw(N:Nat):aF Tryz.prog (aU4 N):=xf N (tc (Vn N) tn) [] [] 0 Tryz.func146 rfl (by kernel_rfl) fun a=>by kernel_rfl
def rZ(N:Nat)(b:TC):Option cc:=bc (L8 N b) fun a=>aw a.length a (some (bE a))
abbrev Sr(N:Nat):br:=⟨128,⟨[(0,dd (.sl tC))],[],[]⟩,[⟨[(0,dd .s)],[],[]⟩],rZ N⟩
theorem yA(N:Nat):aF Tryz.prog (Sr N):=xf N (tc (aUw N) tn) [] [] 0 Tryz.func128 rfl (by kernel_rfl) fun a=>by kernel_rfl
def rL(N:Nat)(a:TB):Option cc:=bc (rZ N [1,a.1,a.2.1,a.2.2.1,a.2.2.2.1,a.2.2.2.2.1,a.2.2.2.2.2]) fun b=>some b
abbrev aMj(N:Nat):br:=⟨74,⟨[(0,dd tB)],[],[]⟩,[⟨[(0,dd .s)],[],[]⟩],rL N⟩
theorem zN(N:Nat):aF Tryz.prog (aMj N):=xf N (tc (yA N) tn) [] [] 0 Tryz.func74 rfl (by kernel_rfl) fun a=>by kernel_rfl
def wE(N:Nat)(b:cc):Option TC:=bc (jX N (b.length:Int)) fun a=>aw a.length a (az (((a.length+(cJ b).length)*1)<=140737488355328) (aw ((a++(cJ b)).length) (a++(cJ b)) (some (a++(cJ b)))))
abbrev aR8(N:Nat):br:=⟨82,⟨[(0,dd .s)],[],[]⟩,[⟨[(0,.slw (.O 0) (.i .u8) 0)],[],[some (.row true (.i .u8) [])]⟩],wE N⟩
theorem Ps(N:Nat):aF Tryz.prog (aR8 N):=xf N (tc (sC N) tn) [7] [] 0 Tryz.func82 rfl (by kernel_rfl) fun a=>by kernel_rfl
def zJ(N:Nat)(rec3:TK->Int->Int->TC->Option TC)(d:TK)(e c:Int)(a:TC):Option TC:=bf (decide (c<e)) (aZ d c fun f=>bc (wE N f) fun b=>aw a.length a (aw b.length b (az (((a.length+b.length)*1)<=140737488355328) (ck .i64 (c+1) (aw ((a++b).length) (a++b) (rec3 d e (c+1) (a++b))))))) (aw a.length a (some a))
def zV(N:Nat):Nat->TK->Int->Int->TC->Option TC:=aN [(.sl .s),tC,tC,tH] (zJ N)
def qV(N:Nat)(a:TK):Option TC:=bc (jX N (a.length:Int)) fun b=>aw b.length b (zV N N a (a.length:Int) 0 b)
abbrev T1(N:Nat):br:=⟨94,⟨[(0,dd (.sl .s)),(1,.clo 82 [])],[],[]⟩,[⟨[(0,.slw (.O 0) (.i .u8) 0)],[],[some (.row true (.i .u8) [])]⟩],qV N⟩
theorem Qz(N:Nat):aF Tryz.prog (T1 N):=xf N (tc (sC N) (tc (Ps N) tn)) [21] [⟨4,false,⟨[(1,.clo 82 []),(5,.slw (.O 0) (.i .u8) 0),(11,dd (.sl .s)),(12,dd tC),(13,dd tC)],[],[some (.row true (.i .u8) [])]⟩⟩] 0 Tryz.func94 rfl (by kernel_rfl) fun a=>by kernel_rfl
def rP(N:Nat)(b:TK):Option TC:=bc (qV N b) fun a=>aw a.length a (some a)
abbrev ZW(N:Nat):br:=⟨43,⟨[(0,dd (.sl .s))],[],[]⟩,[⟨[(0,.slw (.O 0) (.i .u8) 0)],[],[some (.row true (.i .u8) [])]⟩],rP N⟩
theorem yO(N:Nat):aF Tryz.prog (ZW N):=xf N (tc (Qz N) tn) [] [] 0 Tryz.func43 rfl (by kernel_rfl) fun a=>by kernel_rfl
def V5(N:Nat)(rec2:TE->Int->Int->Int->Int->Int->Int->Int->Int->Int->TE->TK->Option cc)(h:TE)(i f:Int)(j k:Int)(l m:Int)(n o p:Int)(q:TE)(b:TK):Option cc:=bf (decide (f<i)) (aZ h f fun c=>bc (bf c.2.1 (aw b.length b (some ((1:Int),h,i,f,j,k,l,m,n,o,p,q,b,c.1,c.2.1,c.2.2.1,c.2.2.2))) (aw b.length b (some ((0:Int),h,i,f,j,k,l,m,n,o,p,q,b,c.1,c.2.1,c.2.2.1,c.2.2.2)))) fun a=>bc (jX N a.2.2.2.2.2.2.2.2.2.2.2.2.2.1) fun d=>aw d.length d (bc (jX N a.1) fun e=>aw e.length e (aw a.2.2.2.2.2.2.2.2.2.2.2.2.1.length a.2.2.2.2.2.2.2.2.2.2.2.2.1 (az (((a.2.2.2.2.2.2.2.2.2.2.2.2.1.length+[(bE d),(bE e),a.2.2.2.2.2.2.2.2.2.2.2.2.2.2.2.1,a.2.2.2.2.2.2.2.2.2.2.2.2.2.2.2.2].length)*16)<=140737488355328) (ck .i64 (a.2.2.2.1+1) (aw ((a.2.2.2.2.2.2.2.2.2.2.2.2.1++[(bE d),(bE e),a.2.2.2.2.2.2.2.2.2.2.2.2.2.2.2.1,a.2.2.2.2.2.2.2.2.2.2.2.2.2.2.2.2]).length) (a.2.2.2.2.2.2.2.2.2.2.2.2.1++[(bE d),(bE e),a.2.2.2.2.2.2.2.2.2.2.2.2.2.2.2.1,a.2.2.2.2.2.2.2.2.2.2.2.2.2.2.2.2]) (rec2 a.2.1 a.2.2.1 (a.2.2.2.1+1) a.2.2.2.2.1 a.2.2.2.2.2.1 a.2.2.2.2.2.2.1 a.2.2.2.2.2.2.2.1 a.2.2.2.2.2.2.2.2.1 a.2.2.2.2.2.2.2.2.2.1 a.2.2.2.2.2.2.2.2.2.2.1 a.2.2.2.2.2.2.2.2.2.2.2.1 (a.2.2.2.2.2.2.2.2.2.2.2.2.1++[(bE d),(bE e),a.2.2.2.2.2.2.2.2.2.2.2.2.2.2.2.1,a.2.2.2.2.2.2.2.2.2.2.2.2.2.2.2.2])))))))) (bc (rZ N [2,j,k,l,m,n,o,p]) fun r=>aw b.length b (bc (rP N b) fun g=>aw g.length g (az ((r.length+(bE g).length)<=9223372036854775807) (some (r++(bE g))))))
def Wb(N:Nat):Nat->TE->Int->Int->Int->Int->Int->Int->Int->Int->Int->TE->TK->Option cc:=aN [(.sl tE),tC,tC,tC,tC,tC,tC,tC,tC,tC,(.sl tE),(.sl .s)] (V5 N)
def rK(N:Nat)(a:TH):Option cc:=Wb N N a.2.2.2.2.2.2.2 (a.2.2.2.2.2.2.2.length:Int) 0 a.1 a.2.1 a.2.2.1 a.2.2.2.1 a.2.2.2.2.1 a.2.2.2.2.2.1 a.2.2.2.2.2.2.1 a.2.2.2.2.2.2.2 ([]:TK)
abbrev T3(N:Nat):br:=⟨77,⟨[(0,dd tA)],[],[]⟩,[⟨[(0,dd .s)],[],[]⟩],rK N⟩
theorem yU(N:Nat):aF Tryz.prog (T3 N):=xf N (tc (sC N) (tc (yA N) (tc (yO N) tn))) [33] [⟨10,true,⟨[(1,.ptr (.O 0) 0),(3,.slw (.O 1) .s 0),(5,.ptr (.O 2) 0),(6,dd tC),(9,dd (.sl tE)),(10,dd tC),(11,dd tC)],[],[some (.box [dd tC,dd tC,dd tC,dd tC,dd tC,dd tC,dd tC,dd (.sl tE)]),some (.row true .s []),some (.box [dd tC,dd .b,dd .s,dd .s])]⟩⟩,⟨4,false,⟨[(1,.ptr (.O 0) 0),(3,.slw (.O 1) .s 0),(9,dd (.sl tE)),(10,dd tC),(11,dd tC)],[],[some (.box [dd tC,dd tC,dd tC,dd tC,dd tC,dd tC,dd tC,dd (.sl tE)]),some (.row true .s [])]⟩⟩] 0 Tryz.func77 rfl (by kernel_rfl) fun a=>by kernel_rfl
def WA(N:Nat)(g:TA->Int->Int->TK->Option TK)(e:TA)(f c:Int)(a:TK):Option TK:=bf (decide (c<f)) (aZ e c fun b=>bc (rK N b) fun d=>aw a.length a (az (((a.length+[d].length)*16)<=140737488355328) (ck .i64 (c+1) (aw ((a++[d]).length) (a++[d]) (g e f (c+1) (a++[d])))))) (aw a.length a (some a))
def QF(N:Nat):Nat->TA->Int->Int->TK->Option TK:=aN [(.sl tA),tC,tC,(.sl .s)] (WA N)
def Ut(N:Nat)(rec2:TG->Int->Int->Int->TG->TA->TK->Option TK)(f:TG)(g c h:Int)(i:TG)(e:TA)(a:TK):Option TK:=bf (decide (c<g)) (aZ f c fun b=>bc (rL N b) fun d=>aw a.length a (az (((a.length+[d].length)*16)<=140737488355328) (ck .i64 (c+1) (aw ((a++[d]).length) (a++[d]) (rec2 f g (c+1) h i e (a++[d])))))) (aw a.length a (QF N N e (e.length:Int) 0 a))
def XP(N:Nat):Nat->TG->Int->Int->Int->TG->TA->TK->Option TK:=aN [(.sl tB),tC,tC,tC,(.sl tB),(.sl tA),(.sl .s)] (Ut N)
def pV(N:Nat)(a:TF):Option TK:=XP N N a.2.1 (a.2.1.length:Int) 0 a.1 a.2.1 a.2.2 ([]:TK)
abbrev aH9(N:Nat):br:=⟨44,⟨[(0,dd tD)],[],[]⟩,[⟨[(0,.slw (.O 0) .s 0)],[],[some (.row true .s [])]⟩],pV N⟩
theorem wS(N:Nat):aF Tryz.prog (aH9 N):=xf N (tc (zN N) (tc (yU N) tn)) [19,32] [⟨11,false,⟨[(3,.slw (.O 0) .s 0),(22,dd (.sl tA)),(23,dd tC),(24,dd tC)],[],[some (.row true .s [])]⟩⟩,⟨4,false,⟨[(1,.ptr (.O 0) 0),(3,.slw (.O 1) .s 0),(9,dd (.sl tB)),(10,dd tC),(11,dd tC)],[],[some (.box [dd tC,dd (.sl tB),dd (.sl tA)]),some (.row true .s [])]⟩⟩] 0 Tryz.func44 rfl (by kernel_rfl) fun a=>by kernel_rfl
def pY(N:Nat)(a:TB)(b:TJ):Option (Bool×TJ):=bc (rL N a) fun c=>some ((!((gX b c).getD false)),b)
abbrev Xz(N:Nat):br:=⟨73,⟨[(0,dd tB),(1,.ptr (.B 0) 0)],[some (.box [.mref (.B 1)]),some (.mp false .s .b [] none none)],[]⟩,[⟨[(0,dd .b)],[some (.box [.mref (.O 0)]),none],[some (.mp false .s .b [] none none)]⟩],pY N⟩
theorem W4(N:Nat):aF Tryz.prog (Xz N):=xf N (tc (zN N) tn) [] [] 1 Tryz.func73 rfl (by kernel_rfl) fun a=>by kernel_rfl
def sI(N:Nat)(rec3:TG->Int->Int->TG->TJ->Option (TG×TJ))(e:TG)(f d:Int)(b:TG)(h:TJ):Option (TG×TJ):=bf (decide (d<f)) (bc (aZ e d fun a=>bc (pY N a h) fun g=>bf g.1 (aw b.length b (az (((b.length+[a].length)*48)<=140737488355328) (aw ((b++[a]).length) (b++[a]) (some (e,f,d,(b++[a]),g.2))))) (aw b.length b (some (e,f,d,b,g.2)))) fun c=>ck .i64 (c.2.2.1+1) (aw c.2.2.2.1.length c.2.2.2.1 (rec3 c.1 c.2.1 (c.2.2.1+1) c.2.2.2.1 c.2.2.2.2))) (aw b.length b (some (b,h)))
def sJ(N:Nat):Nat->TG->Int->Int->TG->TJ->Option (TG×TJ):=aN [(.sl tB),tC,tC,(.sl tB),(.sl (.p .s .b))] (sI N)
def mQ(N:Nat)(a:TG)(b:TJ):Option (TG×TJ):=sJ N N a (a.length:Int) 0 ([]:TG) b
abbrev vG(N:Nat):br:=⟨72,⟨[(0,dd (.sl tB)),(1,.clo 73 [.ptr (.B 0) 0])],[some (.box [.mref (.B 1)]),some (.mp false .s .b [] none none)],[]⟩,[⟨[(0,.slw (.O 0) tB 0)],[some (.box [.mref (.O 1)]),none],[some (.row true tB []),some (.mp false .s .b [] none none)]⟩],mQ N⟩
theorem vH(N:Nat):aF Tryz.prog (vG N):=xf N (tc (W4 N) tn) [16,5000073,20] [⟨7,true,⟨[(1,.clo 73 [.ptr (.B 0) 0]),(5,.slw (.O 0) tB 0),(8,dd (.sl tB)),(9,dd tC),(10,dd tC)],[some (.box [.mref (.O 1)]),none],[some (.row true tB []),some (.mp false .s .b [] none none)]⟩⟩,⟨4,false,⟨[(1,.clo 73 [.ptr (.B 0) 0]),(5,.slw (.O 0) tB 0),(8,dd (.sl tB)),(9,dd tC),(10,dd tC)],[some (.box [.mref (.O 1)]),none],[some (.row true tB []),some (.mp false .s .b [] none none)]⟩⟩] 1 Tryz.func72 rfl (by kernel_rfl) fun a=>by kernel_rfl
def qB(N:Nat)(a:TH)(b:TJ):Option (Bool×TJ):=bc (rK N a) fun c=>some ((!((gX b c).getD false)),b)
abbrev Rz(N:Nat):br:=⟨76,⟨[(0,dd tA),(1,.ptr (.B 0) 0)],[some (.box [.mref (.B 1)]),some (.mp false .s .b [] none none)],[]⟩,[⟨[(0,dd .b)],[some (.box [.mref (.O 0)]),none],[some (.mp false .s .b [] none none)]⟩],qB N⟩
theorem Up(N:Nat):aF Tryz.prog (Rz N):=xf N (tc (yU N) tn) [] [] 1 Tryz.func76 rfl (by kernel_rfl) fun a=>by kernel_rfl
def sE(N:Nat)(rec3:TA->Int->Int->TA->TJ->Option (TA×TJ))(e:TA)(f d:Int)(b:TA)(h:TJ):Option (TA×TJ):=bf (decide (d<f)) (bc (aZ e d fun a=>bc (qB N a h) fun g=>bf g.1 (aw b.length b (az (((b.length+[a].length)*80)<=140737488355328) (aw ((b++[a]).length) (b++[a]) (some (e,f,d,(b++[a]),g.2))))) (aw b.length b (some (e,f,d,b,g.2)))) fun c=>ck .i64 (c.2.2.1+1) (aw c.2.2.2.1.length c.2.2.2.1 (rec3 c.1 c.2.1 (c.2.2.1+1) c.2.2.2.1 c.2.2.2.2))) (aw b.length b (some (b,h)))
def sH(N:Nat):Nat->TA->Int->Int->TA->TJ->Option (TA×TJ):=aN [(.sl tA),tC,tC,(.sl tA),(.sl (.p .s .b))] (sE N)
def mP(N:Nat)(a:TA)(b:TJ):Option (TA×TJ):=sH N N a (a.length:Int) 0 ([]:TA) b
abbrev uY(N:Nat):br:=⟨75,⟨[(0,dd (.sl tA)),(1,.clo 76 [.ptr (.B 0) 0])],[some (.box [.mref (.B 1)]),some (.mp false .s .b [] none none)],[]⟩,[⟨[(0,.slw (.O 0) tA 0)],[some (.box [.mref (.O 1)]),none],[some (.row true tA []),some (.mp false .s .b [] none none)]⟩],mP N⟩
theorem vN(N:Nat):aF Tryz.prog (uY N):=xf N (tc (Up N) tn) [16,5000076,20] [⟨7,true,⟨[(1,.clo 76 [.ptr (.B 0) 0]),(5,.slw (.O 0) tA 0),(8,dd (.sl tA)),(9,dd tC),(10,dd tC)],[some (.box [.mref (.O 1)]),none],[some (.row true tA []),some (.mp false .s .b [] none none)]⟩⟩,⟨4,false,⟨[(1,.clo 76 [.ptr (.B 0) 0]),(5,.slw (.O 0) tA 0),(8,dd (.sl tA)),(9,dd tC),(10,dd tC)],[some (.box [.mref (.O 1)]),none],[some (.row true tA []),some (.mp false .s .b [] none none)]⟩⟩] 1 Tryz.func75 rfl (by kernel_rfl) fun a=>by kernel_rfl
def To(N:Nat)(l:Int->Int->Int->TG->TA->Int->TK->TG->TA->TJ->Option TO)(j d a:Int)(b:TG)(c:TA)(m:Int)(e:TK)(g:TG)(h:TA)(k:TJ):Option TO:=bf (decide (d<j)) (az (0<=d) (az (d<(e.length:Int)) (cr e d.toNat fun n=>ck .i64 (d+1) (aw e.length e (aw g.length g (aw h.length h (l j (d+1) a b c m e g h (nY k n true)))))))) (bc (mQ N b k) fun f=>az (a=a) (az (b=b) (az (c=c) (bc (mP N c f.2) fun i=>az (a=a) (az (b=b) (az (c=c) (az (a=a) (az (b=b) (az (c=c) (aw f.1.length f.1 (aw i.1.length i.1 (some (a,(f.1,(i.1,0)))))))))))))))
def aBm(N:Nat):Nat->Int->Int->Int->TG->TA->Int->TK->TG->TA->TJ->Option TO:=aN [tC,tC,tC,(.sl tB),(.sl tA),tC,(.sl .s),(.sl tB),(.sl tA),(.sl (.p .s .b))] (To N)
def sT(N:Nat)(a b:TF):Option TO:=bc (nV N a b) fun d=>bf (d !=0) (some (0,(([]:TG),(([]:TA),d)))) (bc (pV N a) fun c=>aw c.length c (aBm N N (c.length:Int) 0 b.1 b.2.1 b.2.2 0 c ([]:TG) ([]:TA) ([]:TJ)))
abbrev ZO(N:Nat):br:=⟨29,⟨[(0,dd tD),(1,dd tD)],[],[]⟩,[⟨[(0,.agg [dd tC,dd (.sl tB),dd (.sl tA)]),(1,dd tC)],[],[]⟩],sT N⟩
theorem aE3(N:Nat):aF Tryz.prog (ZO N):=xf N (tc (rW N) (tc (wS N) (tc (vH N) (tc (vN N) tn)))) [5000075,28,29,30,31,34,35,5000072] [⟨8,false,⟨[(3,.ptr (.O 0) 0),(4,.ptr (.O 1) 0),(7,.ptr (.O 2) 0),(19,.slw (.O 3) .s 0),(20,dd tC),(21,dd tC)],[],[some (.box [dd tC,dd (.sl tB),dd (.sl tA)]),some (.box [dd tC,.slw (.O 4) tB 0,.slw (.O 5) tA 0]),some (.box [.mref (.O 6)]),some (.row true .s []),some (.row true tB []),some (.row true tA []),some (.mp false .s .b [] none none)]⟩⟩] 0 Tryz.func29 rfl (by kernel_rfl) fun a=>by kernel_rfl
def Tk(i:TG->Int->Int->TU->TR->Option (Int×TR))(g:TG)(h f:Int)(c:TU)(d:TR):Option (Int×TR):=bf (decide (f<h)) (bc (aZ g f fun b=>bc (bf ((gX c (b.1,b.2.1)).isSome) (aw d.length d (some (g,h,f,(!(lZ [1,1,1,1,1] (((gX c (b.1,b.2.1)).getD (0,(0,(0,(0,(0,0)))))).1==b.1) (lZ [1,1,1,1] (((gX c (b.1,b.2.1)).getD (0,(0,(0,(0,(0,0)))))).2.1==b.2.1) (lZ [1,1,1] (((gX c (b.1,b.2.1)).getD (0,(0,(0,(0,(0,0)))))).2.2.1==b.2.2.1) (lZ [1,1] (((gX c (b.1,b.2.1)).getD (0,(0,(0,(0,(0,0)))))).2.2.2.1==b.2.2.2.1) (lZ [1] (((gX c (b.1,b.2.1)).getD (0,(0,(0,(0,(0,0)))))).2.2.2.2.1==b.2.2.2.2.1) (lZ ([]:(List Nat)) (((gX c (b.1,b.2.1)).getD (0,(0,(0,(0,(0,0)))))).2.2.2.2.2==b.2.2.2.2.2) true))))))),c,d,b.1,b.2.1,b.2.2.1,b.2.2.2.1,b.2.2.2.2.1,b.2.2.2.2.2,((gX c (b.1,b.2.1)).getD (0,(0,(0,(0,(0,0)))))).1,((gX c (b.1,b.2.1)).getD (0,(0,(0,(0,(0,0)))))).2.1,((gX c (b.1,b.2.1)).getD (0,(0,(0,(0,(0,0)))))).2.2.1,((gX c (b.1,b.2.1)).getD (0,(0,(0,(0,(0,0)))))).2.2.2.1,((gX c (b.1,b.2.1)).getD (0,(0,(0,(0,(0,0)))))).2.2.2.2.1,((gX c (b.1,b.2.1)).getD (0,(0,(0,(0,(0,0)))))).2.2.2.2.2))) (aw d.length d (some (g,h,f,false,c,d,b.1,b.2.1,b.2.2.1,b.2.2.2.1,b.2.2.2.2.1,b.2.2.2.2.2,((gX c (b.1,b.2.1)).getD (0,(0,(0,(0,(0,0)))))).1,((gX c (b.1,b.2.1)).getD (0,(0,(0,(0,(0,0)))))).2.1,((gX c (b.1,b.2.1)).getD (0,(0,(0,(0,(0,0)))))).2.2.1,((gX c (b.1,b.2.1)).getD (0,(0,(0,(0,(0,0)))))).2.2.2.1,((gX c (b.1,b.2.1)).getD (0,(0,(0,(0,(0,0)))))).2.2.2.2.1,((gX c (b.1,b.2.1)).getD (0,(0,(0,(0,(0,0)))))).2.2.2.2.2)))) fun a=>bf a.2.2.2.1 (aw a.2.2.2.2.2.1.length a.2.2.2.2.2.1 (az (((a.2.2.2.2.2.1.length+[((a.2.2.2.2.2.2.1,(a.2.2.2.2.2.2.2.1,(a.2.2.2.2.2.2.2.2.1,(a.2.2.2.2.2.2.2.2.2.1,(a.2.2.2.2.2.2.2.2.2.2.1,a.2.2.2.2.2.2.2.2.2.2.2.1))))),a.2.2.2.2.2.2.2.2.2.2.2.2)].length)*96)<=140737488355328) (aw ((a.2.2.2.2.2.1++[((a.2.2.2.2.2.2.1,(a.2.2.2.2.2.2.2.1,(a.2.2.2.2.2.2.2.2.1,(a.2.2.2.2.2.2.2.2.2.1,(a.2.2.2.2.2.2.2.2.2.2.1,a.2.2.2.2.2.2.2.2.2.2.2.1))))),a.2.2.2.2.2.2.2.2.2.2.2.2)]).length) (a.2.2.2.2.2.1++[((a.2.2.2.2.2.2.1,(a.2.2.2.2.2.2.2.1,(a.2.2.2.2.2.2.2.2.1,(a.2.2.2.2.2.2.2.2.2.1,(a.2.2.2.2.2.2.2.2.2.2.1,a.2.2.2.2.2.2.2.2.2.2.2.1))))),a.2.2.2.2.2.2.2.2.2.2.2.2)]) (some (a.1,a.2.1,a.2.2.1,a.2.2.2.2.1,(a.2.2.2.2.2.1++[((a.2.2.2.2.2.2.1,(a.2.2.2.2.2.2.2.1,(a.2.2.2.2.2.2.2.2.1,(a.2.2.2.2.2.2.2.2.2.1,(a.2.2.2.2.2.2.2.2.2.2.1,a.2.2.2.2.2.2.2.2.2.2.2.1))))),a.2.2.2.2.2.2.2.2.2.2.2.2)])))))) (aw a.2.2.2.2.2.1.length a.2.2.2.2.2.1 (some (a.1,a.2.1,a.2.2.1,a.2.2.2.2.1,a.2.2.2.2.2.1)))) fun e=>ck .i64 (e.2.2.1+1) (aw e.2.2.2.2.length e.2.2.2.2 (i e.1 e.2.1 (e.2.2.1+1) e.2.2.2.1 e.2.2.2.2))) (aw d.length d (some (0,d)))
def V7:Nat->TG->Int->Int->TU->TR->Option (Int×TR):=aN [(.sl tB),tC,tC,(.sl (.p tO tB)),(.sl tL)] (Tk)
def Sy(N:Nat)(rec4:TG->Int->Int->Int->TG->TA->TU->Option (Int×TR))(d:TG)(e b g:Int)(c:TG)(h:TA)(f:TU):Option (Int×TR):=bf (decide (b<e)) (aZ d b fun a=>ck .i64 (b+1) (rec4 d e (b+1) g c h (nY f (a.1,a.2.1) a))) (V7 N c (c.length:Int) 0 f ([]:TR))
def YA(N:Nat):Nat->TG->Int->Int->Int->TG->TA->TU->Option (Int×TR):=aN [(.sl tB),tC,tC,tC,(.sl tB),(.sl tA),(.sl (.p tO tB))] (Sy N)
def tU(N:Nat)(a b:TF):Option (Int×TR):=bc (nV N a b) fun c=>bf (c !=0) (some (c,([]:TR))) (YA N N b.2.1 (b.2.1.length:Int) 0 a.1 a.2.1 a.2.2 ([]:TU))
abbrev Wt(N:Nat):br:=⟨30,⟨[(0,dd tD),(1,dd tD)],[],[]⟩,[⟨[(0,.slw (.O 0) tL 0),(1,dd tC)],[],[some (.row true tL [])]⟩],tU N⟩
theorem Z7(N:Nat):aF Tryz.prog (Wt N):=xf N (tc (rW N) tn) [65] [⟨19,true,⟨[(7,.mref (.O 0)),(10,.slw (.O 1) tL 0),(38,dd (.sl tB)),(39,dd tC),(40,dd tC)],[],[some (.mp false tO tB [] none none),some (.row true tL [])]⟩⟩,⟨22,true,⟨[(7,.mref (.O 0)),(10,.slw (.O 1) tL 0),(12,.ptr (.O 2) 0),(13,.ptr (.O 3) 0),(38,dd (.sl tB)),(39,dd tC),(40,dd tC),(59,dd .b)],[],[some (.mp false tO tB [] none none),some (.row true tL []),some (.box [dd tC,dd tC,dd tC,dd tC,dd tC,dd tC]),some (.box [dd tC,dd tC,dd tC,dd tC,dd tC,dd tC])]⟩⟩,⟨16,false,⟨[(7,.mref (.O 0)),(10,.slw (.O 1) tL 0),(38,dd (.sl tB)),(39,dd tC),(40,dd tC)],[],[some (.mp false tO tB [] none none),some (.row true tL [])]⟩⟩,⟨8,false,⟨[(2,.ptr (.O 0) 0),(7,.mref (.O 1)),(23,dd (.sl tB)),(24,dd tC),(25,dd tC)],[],[some (.box [dd tC,dd (.sl tB),dd (.sl tA)]),some (.mp false tO tB [] none none)]⟩⟩] 0 Tryz.func30 rfl (by kernel_rfl) fun a=>by kernel_rfl
end Go.Proofs.Tryz
namespace Go.Proofs
open Go.Shelf
def Tryz.m8:Go.Shelf.Ren:=⟨fun|189=>91|125=>134|257=>133|128=>160|129=>161|294=>151|295=>152|296=>153|297=>154|298=>155|299=>156|216=>157|300=>158|301=>159|328=>177|329=>178|330=>179|331=>180|332=>181|215=>168|343=>189|n=>n,fun|28=>167|3=>3|46=>170|0=>0|51=>154|53=>157|4=>4|183=>233|182=>232|131=>230|5=>5|9=>9|218=>250|222=>254|228=>263|229=>264|n=>n,fun|n=>n⟩
theorem Tryz.oy:Go.Proofs.Lays.n189 Tryz.prog Tryz.m8:={
 mixed:=by kernel_rfl
 f125:=Tryz.func134.trans (congrArg some (by kernel_rfl))
 f128:=Tryz.func160.trans (congrArg some (by kernel_rfl))
 f129:=Tryz.func161.trans (congrArg some (by kernel_rfl))
 f189:=Tryz.func91.trans (congrArg some (by kernel_rfl))
 f215:=Tryz.func168.trans (congrArg some (by kernel_rfl))
 f216:=Tryz.func157.trans (congrArg some (by kernel_rfl))
 f257:=Tryz.func133.trans (congrArg some (by kernel_rfl))
 f294:=Tryz.func151.trans (congrArg some (by kernel_rfl))
 f295:=Tryz.func152.trans (congrArg some (by kernel_rfl))
 f296:=Tryz.func153.trans (congrArg some (by kernel_rfl))
 f297:=Tryz.func154.trans (congrArg some (by kernel_rfl))
 f298:=Tryz.func155.trans (congrArg some (by kernel_rfl))
 f299:=Tryz.func156.trans (congrArg some (by kernel_rfl))
 f300:=Tryz.func158.trans (congrArg some (by kernel_rfl))
 f301:=Tryz.func159.trans (congrArg some (by kernel_rfl))
 f328:=Tryz.func177.trans (congrArg some (by kernel_rfl))
 f329:=Tryz.func178.trans (congrArg some (by kernel_rfl))
 f330:=Tryz.func179.trans (congrArg some (by kernel_rfl))
 f331:=Tryz.func180.trans (congrArg some (by kernel_rfl))
 f332:=Tryz.func181.trans (congrArg some (by kernel_rfl))
 f343:=Tryz.func189.trans (congrArg some (by kernel_rfl))
 t0:=Tryz.underlying0
 a0:=Tryz.isAgg0
 z0:=Tryz.sizeOf0
 v0:=Tryz.zeroValue0
 t3:=Tryz.underlying3
 a3:=Tryz.isAgg3
 z3:=Tryz.sizeOf3
 v3:=Tryz.zeroValue3
 t4:=Tryz.underlying4
 a4:=Tryz.isAgg4
 z4:=Tryz.sizeOf4
 v4:=Tryz.zeroValue4
 t5:=Tryz.underlying5
 a5:=Tryz.isAgg5
 z5:=Tryz.sizeOf5
 v5:=Tryz.zeroValue5
 t9:=Tryz.underlying9
 a9:=Tryz.isAgg9
 z9:=Tryz.sizeOf9
 v9:=Tryz.zeroValue9
 t28:=Tryz.underlying167
 a28:=Tryz.isAgg167
 z28:=Tryz.sizeOf167
 v28:=Tryz.zeroValue167
 t46:=Tryz.underlying170
 a46:=Tryz.isAgg170
 z46:=Tryz.sizeOf170
 v46:=Tryz.zeroValue170
 t51:=Tryz.underlying154
 a51:=Tryz.isAgg154
 z51:=Tryz.sizeOf154
 v51:=Tryz.zeroValue154
 t53:=Tryz.underlying157
 a53:=Tryz.isAgg157
 z53:=Tryz.sizeOf157
 v53:=Tryz.zeroValue157
 t131:=Tryz.underlying230
 a131:=Tryz.isAgg230
 z131:=Tryz.sizeOf230
 v131:=Tryz.zeroValue230
 t182:=Tryz.underlying232
 a182:=Tryz.isAgg232
 z182:=Tryz.sizeOf232
 v182:=Tryz.zeroValue232
 t183:=Tryz.underlying233
 a183:=Tryz.isAgg233
 z183:=Tryz.sizeOf233
 v183:=Tryz.zeroValue233
 t218:=Tryz.underlying250
 a218:=Tryz.isAgg250
 z218:=Tryz.sizeOf250
 v218:=Tryz.zeroValue250
 t222:=Tryz.underlying254
 a222:=Tryz.isAgg254
 z222:=Tryz.sizeOf254
 v222:=Tryz.zeroValue254
 t228:=Tryz.underlying263
 a228:=Tryz.isAgg263
 z228:=Tryz.sizeOf263
 v228:=Tryz.zeroValue263
 t229:=Tryz.underlying264
 a229:=Tryz.isAgg264
 z229:=Tryz.sizeOf264
 v229:=Tryz.zeroValue264}
def Tryz.oa:Go.Shelf.Ren:=⟨fun|20=>92|n=>n,fun|22=>167|3=>3|4=>4|0=>0|n=>n,fun|n=>n⟩
theorem Tryz.r7:Go.Proofs.Lays2.n20 Tryz.prog Tryz.oa:={
 mixed:=by kernel_rfl
 f20:=Tryz.func92.trans (congrArg some (by kernel_rfl))
 t0:=Tryz.underlying0
 a0:=Tryz.isAgg0
 z0:=Tryz.sizeOf0
 v0:=Tryz.zeroValue0
 t3:=Tryz.underlying3
 a3:=Tryz.isAgg3
 z3:=Tryz.sizeOf3
 v3:=Tryz.zeroValue3
 t4:=Tryz.underlying4
 a4:=Tryz.isAgg4
 z4:=Tryz.sizeOf4
 v4:=Tryz.zeroValue4
 t22:=Tryz.underlying167
 a22:=Tryz.isAgg167
 z22:=Tryz.sizeOf167
 v22:=Tryz.zeroValue167
 i3:=by kernel_rfl}
end Go.Proofs
namespace Go.Proofs.Tryz
open Go.Eng Go.RowKit Go.Sort Go.Shelf
variable{vs:Array Value}
def ins(x:Int):List Int->List Int
 |[]=>[x]
 |y::l=>if x<=y then x::y::l else y::ins x l
def l7:List Int->List Int
 |[]=>[]
 |x::l=>ins x (l7 l)
theorem ID(x:Int):∀l:List Int,(ins x l).Perm (x::l)
 |[]=>.refl _
 |y::l=>by
  unfold ins;split
  ·exact .refl _
  ·exact((ID x l).cons y).trans (.swap x y l)
theorem yQ:∀l:List Int,(l7 l).Perm l
 |[]=>.refl _
 |x::l=>(ID x (l7 l)).trans ((yQ l).cons x)
theorem JV(x:Int):∀{l:List Int},l.Pairwise (· <=·)->(ins x l).Pairwise (· <=·)
 |[],_=>List.pairwise_singleton _ _
 |y::l,h=>by
  have h1:=aax.1 h;unfold ins;split
  ·rename_i hxy;exact aax.2 ⟨fun z hz=>by
    rcases ω.1 hz with rfl|hz
    ·exact hxy
    ·exact Int.le_trans hxy (h1.1 z hz),h⟩
  ·refine aax.2 ⟨fun z hz=>?_,JV x h1.2⟩;rcases ω.1 ((ID x l).mem_iff.1 hz)with rfl|hz
   ·omega
   ·exact h1.1 z hz
theorem vP:∀l:List Int,(l7 l).Pairwise (· <=·)
 |[]=>.nil
 |x::l=>JV x (vP l)
theorem SJ(l:List Int):l7 l=l.mergeSort fun x y=>decide (x<=y):=by refine List.Perm.eq_of_pairwise (le:=fun a b:Int=>a<=b) (fun _ _ _ _ h1 h2=>Int.le_antisymm h1 h2) (vP l) ?_ ((yQ l).trans (List.mergeSort_perm l _).symm);have:=List.pairwise_mergeSort (le:=fun x y:Int=>decide (x<=y)) (fun a b c h1 h2=>by simp only[decide_eq_true_eq]at*;omega) (fun a b=>by simp only[Bool.or_eq_true,decide_eq_true_eq];omega) l;exact this.imp fun h=>of_decide_eq_true h
def gI(_N:Nat)(xs:List Int):Option (List Int):=if xs.length<4611686018427387904 then some (l7 xs)else none
abbrev oD(N:Nat):br:=⟨91,⟨[(0,.slw (.B 0) (.i .i64) 0)],[some (.row true (.i .i64) [])],[]⟩,[⟨[],[some (.row true (.i .i64) [])],[]⟩],gI N⟩
def nS(xs:List Int):List (List DV):=xs.map fun x=>[DV.I .i64 x]
theorem Oc{G:Gh}{xs:List Int}(h:DV.rows G (fun o=>vs[o]?) 1 0 (nS xs)):vs.toList.take xs.length=xs.map (Value.int .i64):=by
 apply abN;intro j;by_cases hj:j<xs.length
 ·rw[aaH hj,aaj];have h1:(nS xs)[j]?=some [DV.I .i64 xs[j]]:=by simp[nS,hj]
  obtain⟨_,h2⟩:=DV.im h h1;obtain⟨⟨v,h3,h4⟩,_⟩:=h2;have h5:v=.int .i64 xs[j]:=h4;subst h5;rw[show 0+j*1=j by omega]at h3;have h3:vs[j]?=_:=h3;rw[h3];simp[hj]
 ·rw[List.getElem?_take_eq_none (by omega),aay (by simp;omega)]
theorem xY{G:Gh}{vs:Array Value}:∀{xs:List Int} {o:Nat},(∀j (h:j<xs.length),vs[o+j]?=some (Value.int .i64 xs[j]))->DV.rows G (fun o=>vs[o]?) 1 o (nS xs)
 |[],_,_=>trivial
 |x::xs,o,h=>by
  refine⟨rfl,⟨⟨.int .i64 x,?_,rfl⟩,trivial⟩,xY fun j hj=>?_⟩
  ·have:=h 0 (by simp);simpa using this
  ·have:=h (j+1) (by simpa using hj);rw[show o+1+j=o+(j+1) by omega,this];simp
theorem xO(N:Nat):aF prog (oD N):=by
 rintro _ ⟨xs,⟨⟩⟩ r hF nbs hn;have hF:(if xs.length<4611686018427387904 then some (l7 xs)else none)=some r:=hF;rw[SJ]at hF;split at hF
 rotate_left
 ·cases hF
 rename_i hlen;cases hF;have hn:nbs.map some=([]:List (Option bn)):=hn;obtain rfl:nbs=[]:=abQ.1 hn;show de prog 91 [.sl (.B 0) 1 0 xs.length] [some (.row true 1 (nS xs))] (.cn []) [some (.row true 1 (nS (xs.mergeSort fun x y=>decide (x<=y))))] [];intro w G m vs hS hm hr;obtain⟨v0,l0,hv0,⟨h1,loc,hloc,h2⟩,h3⟩:=hr;subst h3;have hlk:∀(b:bn) h bl,gH [some b] [] h=some bl->h=.B 0/\bl=b:=by
  intro b h bl e;cases h with
  |B i=>cases i with
   |zero=>cases e;exact⟨rfl,rfl⟩
   |succ i=>cases e
  |O i=>cases e
 have hnd:loc≠.dead:=by rintro rfl;cases hS.dead _ hloc
 have hfn:x7 prog 91:=⟨_,func91,rfl,rfl⟩;obtain rfl:vs=#[v0]:=by apply ac7;simpa using hv0
 refine .inl ⟨hfn,?_⟩;rcases h2 hnd with⟨a,rfl,h0⟩|⟨b,sz,cap,rfl,rfl,hc1,hc2⟩
 ·obtain rfl:xs=[]:=aas.1 h0;refine(Any.slices_Sort_int_none oy a 0 w).mono ?_;rintro e w' ⟨rfl,rfl⟩;have e:([]:List Int).mergeSort (fun x y=>decide (x<=y))=[]:=List.mergeSort_nil;rw[e];exact⟨_,rfl,G,m,hS,⟨_,rfl,rfl⟩,Fr.refl _ _ _ _,fun i=>dw.refl _,fun h l b h1 h2=>.inr ⟨h,l,h1,h2⟩,fun i _=>hm i⟩
 ·obtain⟨bl,hbl,hrep⟩:=hS.fh _ _ _ hloc;obtain⟨_,rfl⟩:=hlk _ _ _ hbl;obtain⟨cur,T,hb,hsz,hk,hrows,hG⟩:=hrep;have ht:=Oc hrows;have hle:xs.length<=cur.size:=by have:=congrArg List.length ht;simp at this;omega
  have hb0:b<w.heap.size:=(aad.1 hb).1;refine(Any.slices_Sort_int oy b (0*1) cap xs w (by rw[ac3];exact holds_of_blockI hb ht) hb0 hlen).mono ?_;rintro e w' ⟨rfl,n,os,rfl⟩;generalize hys:xs.mergeSort (fun x y=>decide (x<=y))=ys;have hl:ys.length=xs.length:=by rw[<-hys];exact List.length_mergeSort _
  have hb':=heap_sortedI (n:=n) (os:=os) ys.toArray hb;have hgr:=grownBy_sortedI (w:=w) (g:=b) (n:=n) (os:=os) ys.toArray;have hdr:TD w (Sort.grow (putRow (Value.int .i64) (Sort.ahead w n) b 0 ys.toArray) os):=⟨rfl,abJ _ _⟩;rw[ac3];revert hb' hgr hdr;generalize Sort.grow (putRow (Value.int .i64) (Sort.ahead w n) b 0 ys.toArray) os=w';intro hb' hgr hdr;obtain⟨g1,g2,g3,g4,g5⟩:=hgr;refine⟨_,rfl,G,m,?_,⟨_,rfl,rfl⟩,⟨g1,hdr,g3,g4,fun b' hb1 ho=>?_,fun _ _ _ _=>rfl,Gh.le.refl G⟩,fun i=>dw.refl _,fun h l b h1 h2=>.inr ⟨h,l,h1,h2⟩,fun i _=>hm i⟩
  ·refine⟨?_,?_,hS.da,?_,?_,hS.gl,?_⟩
   ·intro h b2 sz2 hm2;obtain⟨bl,hbl,_⟩:=hS.fh _ _ _ hm2;obtain⟨rfl,rfl⟩:=hlk _ _ _ hbl;rw[hloc]at hm2;cases hm2;refine⟨_,rfl,_,T,hb',by rw[putCells,Array.size_mapIdx];exact hsz,by simpa[nS,hl]using hk,xY fun j hj=>?_,hG⟩;have:=congrArg (fun l=>l[j]?) (take_putCellsI cur ys (by omega));simp only[aaH hj,aaj]at this;rw[aan,this];simp[hj]
   ·intro h hm2;obtain⟨mt,k,e⟩:=hS.nil _ hm2;obtain⟨rfl,_⟩:=hlk _ _ _ e;rw[hloc]at hm2;cases hm2
   ·intro b2 o v hg;have hne:b≠b2:=by rintro rfl;rw[hG o]at hg;cases hg
    have:=hS.gh _ _ _ hg;have hlt:b2<w.heap.size:=by
     simp only[World.cell?]at this;cases hx:w.heap[b2]?with
     |none=>rw[hx]at this;simp at this
     |some _=>exact(aad.1 hx).1
    have he:=g5 b2 hlt (fun e=>hne (Option.some.inj e).symm);simp only[World.cell?,he]at this|-;exact this
   ·intro h hd;have:=hS.dead _ hd;cases h with
    |B i=>cases i with
     |zero=>cases this
     |succ i=>rfl
    |O i=>rfl
   ·intro h b2 sz2 fp hm2;obtain⟨bl,hbl,_⟩:=hS.di _ _ _ _ hm2;obtain⟨rfl,_⟩:=hlk _ _ _ hbl;rw[hloc]at hm2;cases hm2
  ·exact g5 b' hb1 fun e=>ho (by cases e;exact Own.at_ hloc)
def eY(_N:Nat)(xs:List Int):Option (List Int):=if xs.length<=9223372036854775807 then some (Go.Lib.compact xs)else none
abbrev lI(N:Nat):br:=⟨92,⟨[(0,.slw (.B 0) (.i .i64) 0)],[some (.row true (.i .i64) [])],[]⟩,[⟨[(0,.slw (.O 0) (.i .i64) 0)],[none],[some (.row true (.i .i64) [])]⟩],eY N⟩
theorem Mf(d:Array Int):∀m,(Go.Lib.compactUpTo d m).length<=m
 |0=>by simp[Go.Lib.compactUpTo]
 |m+1=>by rw[Go.Lib.compactUpTo_succ,ε];have:=Mf d m;split<;>simp<;>omega
theorem Gl(zs:List Int):(Go.Lib.compact zs).length<=zs.length:=by have:=Mf zs.toArray zs.toArray.size;simpa[Go.Lib.compact]using this
theorem uC(N:Nat):aF prog (lI N):=by
 rintro _ ⟨xs,⟨⟩⟩ r hF nbs hn;have hF:(if xs.length<=9223372036854775807 then some (Go.Lib.compact xs)else none)=some r:=hF;split at hF
 rotate_left
 ·cases hF
 rename_i hlen;cases hF;have hn:nbs.map some=[some (bn.row true 1 (nS (Go.Lib.compact xs)))]:=hn;obtain rfl:nbs=[bn.row true 1 (nS (Go.Lib.compact xs))]:=by
  cases nbs with
  |nil=>cases hn
  |cons b l=>
   cases l with
   |nil=>cases hn;rfl
   |cons _ _=>cases hn
 show de prog 92 [.sl (.B 0) 1 0 xs.length] [some (.row true 1 (nS xs))] (.sl (.O 0) 1 0 (Go.Lib.compact xs).length) [none] [bn.row true 1 (nS (Go.Lib.compact xs))];generalize hys:Go.Lib.compact xs=ys;have hle0:ys.length<=xs.length:=by rw[<-hys];exact Gl xs
 intro w G m vs hS hm hr;obtain⟨v0,l0,hv0,⟨h1,loc,hloc,h2⟩,h3⟩:=hr;subst h3;have hlk:∀(b:bn) h bl,gH [some b] [] h=some bl->h=.B 0/\bl=b:=by
  intro b h bl e;cases h with
  |B i=>cases i with
   |zero=>cases e;exact⟨rfl,rfl⟩
   |succ i=>cases e
  |O i=>cases e
 have hnd:loc≠.dead:=by rintro rfl;cases hS.dead _ hloc
 have hfn:x7 prog 92:=⟨_,func92,rfl,rfl⟩;obtain rfl:vs=#[v0]:=by apply ac7;simpa using hv0
 let m' (l:Go.Eng.Loc):HM:=fun h=>if h=.O 0 then some l else if h=.B 0 then some .dead else m h
 have hmO:∀l:Go.Eng.Loc,m' l (.O 0)=some l:=fun l=>if_pos rfl;have hmB:∀l:Go.Eng.Loc,m' l (.B 0)=some .dead:=fun l=>by show(if(Hd.B 0)=.O 0 then _ else _)=_;rw[if_neg (by simp),if_pos rfl]
 have hmo:∀l h,h≠.O 0->h≠.B 0->m' l h=m h:=fun l h a b=>by show(if h=.O 0 then _ else _)=_;rw[if_neg a,if_neg b]
 have hother:∀h l,h≠.B 0->m h=some l->l=.dead:=fun h l hb e=>by
  cases l with
  |dead=>rfl
  |none=>obtain⟨_,_,e2⟩:=hS.nil _ e;exact absurd (hlk _ _ _ e2).1 hb
  |at_ b sz=>obtain⟨_,e2,_⟩:=hS.fh _ _ _ e;exact absurd (hlk _ _ _ e2).1 hb
  |atx b sz fp=>obtain⟨_,e2,_⟩:=hS.di _ _ _ _ e;exact absurd (hlk _ _ _ e2).1 hb
 have hsame:∀l i,dw (m (.B i)) (m' l (.B i)):=fun l i=>by
  by_cases e:i=0
  ·subst e;exact .inr (.inl ⟨by rw[hloc];exact fun e=>(by cases e),hmB l⟩)
  ·rw[hmo l _ (by simp) (by simpa using e)];exact dw.refl _
 have hlast:∀l i,gH [none] [bn.row true 1 (nS ys)] (.O i)=none->m' l (.O i)=none:=fun l i e=>by
  cases i with
  |zero=>cases e
  |succ i=>rw[hmo l _ (by simp) (by simp)];exact hm _
 have hdead:∀l:Go.Eng.Loc,l≠.dead->∀h,m' l h=some .dead->gH [none] [bn.row true 1 (nS ys)] h=none:=fun l hl h e=>by
  cases h with
  |B i=>cases i<;>rfl
  |O i=>cases i with
   |zero=>rw[hmO]at e;cases e;exact absurd rfl hl
   |succ i=>rfl
 refine .inl ⟨hfn,?_⟩;rcases h2 hnd with⟨a,rfl,h0⟩|⟨b,sz,cap,rfl,rfl,hc1,hc2⟩
 ·obtain rfl:xs=[]:=aas.1 h0;have hy:ys=[]:=aas.1 (by simpa using hle0);subst hy;refine(Any.slices_Compact_int_empty r7 a 0 w).mono ?_;rintro e w' ⟨rfl,rfl⟩;refine⟨_,rfl,G,m' .none,⟨?_,?_,?_,hS.gh,hdead _ (by simp),hS.gl,?_⟩,⟨rfl,_,hmO _,fun _=>.inl ⟨a,rfl,rfl⟩⟩,Fr.refl _ _ _ _,hsame _,?_,hlast _⟩
  ·intro h b sz e;by_cases e1:h=.O 0
   ·subst e1;rw[hmO]at e;cases e
   by_cases e2:h=.B 0
   ·subst e2;rw[hmB]at e;cases e
   rw[hmo _ _ e1 e2]at e;cases hother _ _ e2 e
  ·intro h e;by_cases e1:h=.O 0
   ·subst e1;exact⟨true,1,rfl⟩
   by_cases e2:h=.B 0
   ·subst e2;rw[hmB]at e;cases e
   rw[hmo _ _ e1 e2]at e;cases hother _ _ e2 e
  ·intro h h' l l' b e e' hb hb';have key:∀h l,m' .none h=some l->b∈l.ga->False:=fun h l e hb=>by
    by_cases e1:h=.O 0
    ·subst e1;rw[hmO]at e;cases e;cases hb
    by_cases e2:h=.B 0
    ·subst e2;rw[hmB]at e;cases e;cases hb
    rw[hmo _ _ e1 e2]at e;rw[hother _ _ e2 e]at hb;cases hb
   exact(key _ _ e hb).elim
  ·intro h b sz fp e;by_cases e1:h=.O 0
   ·subst e1;rw[hmO]at e;cases e
   by_cases e2:h=.B 0
   ·subst e2;rw[hmB]at e;cases e
   rw[hmo _ _ e1 e2]at e;cases hother _ _ e2 e
  ·intro h l b e hb;by_cases e1:h=.O 0
   ·subst e1;rw[hmO]at e;cases e;cases hb
   by_cases e2:h=.B 0
   ·subst e2;rw[hmB]at e;cases e;cases hb
   rw[hmo _ _ e1 e2]at e;rw[hother _ _ e2 e]at hb;cases hb
 ·obtain⟨bl,hbl,hrep⟩:=hS.fh _ _ _ hloc;obtain⟨_,rfl⟩:=hlk _ _ _ hbl;obtain⟨cur,T,hb,hsz,hk,hrows,hG⟩:=hrep;have ht:=Oc hrows;have hle:xs.length<=cur.size:=by have:=congrArg List.length ht;simp at this;omega
  have hb0:b<w.heap.size:=(aad.1 hb).1;refine(Any.slices_Compact_int r7 b (0*1) cap xs w (by rw[ac3];exact holds_of_blockI hb ht) hlen hc1).mono ?_;rintro e w' ⟨rfl,n,rfl⟩;rw[hys];obtain⟨zs,hzs⟩:∃zs,zs=ys++aae (xs.length-ys.length) 0:=⟨_,rfl⟩;rw[<-hzs];have hzl:zs.length=xs.length:=by rw[hzs];simp;omega
  have hgr0:Sort.grow (putRow (Value.int .i64) (Sort.ahead w n) b 0 zs.toArray) #[]=putRow (Value.int .i64) (Sort.ahead w n) b 0 zs.toArray:=by
   have:∀W:World,Sort.grow W #[]=W:=fun W=>by cases W;simp[Sort.grow]
   exact this _
  have hb':=heap_sortedI (n:=n) (os:=#[]) zs.toArray hb;have hgr:=grownBy_sortedI (w:=w) (g:=b) (n:=n) (os:=#[]) zs.toArray;rw[hgr0]at hb' hgr;rw[ac3];have hdr:TD w (putRow (Value.int .i64) (Sort.ahead w n) b 0 zs.toArray):=⟨rfl,abJ _ _⟩;revert hb' hgr hdr;generalize putRow (Value.int .i64) (Sort.ahead w n) b 0 zs.toArray=w';intro hb' hgr hdr;obtain⟨g1,g2,g3,g4,g5⟩:=hgr;refine⟨_,rfl,G,m' (.at_ b sz),⟨?_,?_,?_,?_,hdead _ (by simp),hS.gl,?_⟩,⟨rfl,_,hmO _,fun _=>.inr ⟨b,sz,cap,rfl,by simp,by omega,hc2⟩⟩,⟨g1,hdr,g3,g4,fun b' hb1 ho=>?_,fun _ _ _ _=>rfl,Gh.le.refl G⟩,hsame _,?_,hlast _⟩
  ·intro h b2 sz2 e;by_cases e1:h=.O 0
   ·subst e1;rw[hmO]at e;cases e;refine⟨_,rfl,_,T,hb',by rw[putCells,Array.size_mapIdx];exact hsz,by simp[nS]at hk|-;omega,xY fun j hj=>?_,hG⟩;have:=congrArg (fun l=>l[j]?) (take_putCellsI cur zs (by omega));simp only[aaH (show j<zs.length by omega),aaj]at this;rw[aan,this,hzs,aaw,List.getElem?_append_left (by simpa using hj)];simp[hj]
   by_cases e2:h=.B 0
   ·subst e2;rw[hmB]at e;cases e
   rw[hmo _ _ e1 e2]at e;cases hother _ _ e2 e
  ·intro h e;by_cases e1:h=.O 0
   ·subst e1;rw[hmO]at e;cases e
   by_cases e2:h=.B 0
   ·subst e2;rw[hmB]at e;cases e
   rw[hmo _ _ e1 e2]at e;cases hother _ _ e2 e
  ·intro h h' l l' b2 e e' hb2 hb2';have key:∀h l,m' (.at_ b sz) h=some l->b2∈l.ga->h=.O 0:=fun h l e hb=>by
    by_cases e1:h=.O 0
    ·exact e1
    by_cases e2:h=.B 0
    ·subst e2;rw[hmB]at e;cases e;cases hb
    rw[hmo _ _ e1 e2]at e;rw[hother _ _ e2 e]at hb;cases hb
   rw[key _ _ e hb2,key _ _ e' hb2']
  ·intro b2 o v hg;have hne:b≠b2:=by rintro rfl;rw[hG o]at hg;cases hg
   have:=hS.gh _ _ _ hg;have hlt:b2<w.heap.size:=by
    simp only[World.cell?]at this;cases hx:w.heap[b2]?with
    |none=>rw[hx]at this;simp at this
    |some _=>exact(aad.1 hx).1
   have he:=g5 b2 hlt (fun e=>hne (Option.some.inj e).symm);simp only[World.cell?,he]at this|-;exact this
  ·intro h b2 sz2 fp e;by_cases e1:h=.O 0
   ·subst e1;rw[hmO]at e;cases e
   by_cases e2:h=.B 0
   ·subst e2;rw[hmB]at e;cases e
   rw[hmo _ _ e1 e2]at e;cases hother _ _ e2 e
  ·exact g5 b' hb1 fun e=>ho (by cases e;exact Own.at_ hloc)
  ·intro h l b2 e hb2;by_cases e1:h=.O 0
   ·subst e1;rw[hmO]at e;cases e;exact .inr ⟨.B 0,_,hloc,hb2⟩
   by_cases e2:h=.B 0
   ·subst e2;rw[hmB]at e;cases e;cases hb2
   rw[hmo _ _ e1 e2]at e;rw[hother _ _ e2 e]at hb2;cases hb2
end Go.Proofs.Tryz
set_option maxRecDepth 8000
set_option synthInstance.maxSize 100000000
set_option synthInstance.maxHeartbeats 4000000
namespace Go.Proofs.Tryz
open Go.Eng Go.RowKit
def qY(N:Nat)(a:TG)(b:TA):Option (TG×TA):=some (a,b)
abbrev zB(N:Nat):br:=⟨40,⟨[(0,dd (.sl tB)),(1,dd (.sl tA))],[],[]⟩,[⟨[(0,.clo 90 [.ptr (.O 0) 0,.ptr (.O 1) 0])],[],[some (.box [dd (.sl tB)]),some (.box [dd (.sl tA)])]⟩],qY N⟩
theorem Sb(N:Nat):aF Tryz.prog (zB N):=xf N tn [] [] 0 Tryz.func40 rfl (by kernel_rfl) fun a=>by kernel_rfl
def rF(N:Nat)(b:TB)(a:Int):Option (Bool×Int):=some ((b.2.2.2.2.2==a),a)
abbrev Vw(N:Nat):br:=⟨88,⟨[(0,dd tB),(1,.ptr (.B 0) 0)],[some (.box [dd tC])],[]⟩,[⟨[(0,dd .b)],[some (.box [dd tC])],[]⟩],rF N⟩
theorem Za(N:Nat):aF Tryz.prog (Vw N):=xf N tn [] [] 1 Tryz.func88 rfl (by kernel_rfl) fun a=>by kernel_rfl
def dK(N:Nat)(rec3:TG->Int->Int->Int->TG->Option TT)(e:TG)(f d h:Int)(b:TG):Option TT:=bf (decide (d<f)) (bc (aZ e d fun a=>bc (rF N a h) fun g=>bf g.1 (aw b.length b (az (((b.length+[a].length)*48)<=140737488355328) (aw ((b++[a]).length) (b++[a]) (some (e,f,d,g.2,(b++[a])))))) (aw b.length b (some (e,f,d,g.2,b)))) fun c=>ck .i64 (c.2.2.1+1) (aw c.2.2.2.2.length c.2.2.2.2 (rec3 c.1 c.2.1 (c.2.2.1+1) c.2.2.2.1 c.2.2.2.2))) (aw b.length b (some (h,b)))
def dL(N:Nat):Nat->TG->Int->Int->Int->TG->Option TT:=aN [(.sl tB),tC,tC,tC,(.sl tB)] (dK N)
def gL(N:Nat)(a:TG)(b:Int):Option TT:=dL N N a (a.length:Int) 0 b ([]:TG)
abbrev sK(N:Nat):br:=⟨72,⟨[(0,dd (.sl tB)),(1,.clo 88 [.ptr (.B 0) 0])],[some (.box [dd tC])],[]⟩,[⟨[(0,.slw (.O 0) tB 0)],[some (.box [dd tC])],[some (.row true tB [])]⟩],gL N⟩
theorem sN(N:Nat):aF Tryz.prog (sK N):=xf N (tc (Za N) tn) [16,5000088,20] [⟨7,true,⟨[(1,.clo 88 [.ptr (.B 0) 0]),(5,.slw (.O 0) tB 0),(8,dd (.sl tB)),(9,dd tC),(10,dd tC)],[some (.box [dd tC])],[some (.row true tB [])]⟩⟩,⟨4,false,⟨[(1,.clo 88 [.ptr (.B 0) 0]),(5,.slw (.O 0) tB 0),(8,dd (.sl tB)),(9,dd tC),(10,dd tC)],[some (.box [dd tC])],[some (.row true tB [])]⟩⟩] 1 Tryz.func72 rfl (by kernel_rfl) fun a=>by kernel_rfl
def rB(N:Nat)(b:TH)(a:Int):Option (Bool×Int):=some ((b.2.2.2.1==a),a)
abbrev Vl(N:Nat):br:=⟨89,⟨[(0,dd tA),(1,.ptr (.B 0) 0)],[some (.box [dd tC])],[]⟩,[⟨[(0,dd .b)],[some (.box [dd tC])],[]⟩],rB N⟩
theorem SW(N:Nat):aF Tryz.prog (Vl N):=xf N tn [] [] 1 Tryz.func89 rfl (by kernel_rfl) fun a=>by kernel_rfl
def dN(N:Nat)(rec3:TA->Int->Int->Int->TA->Option TS)(e:TA)(f d h:Int)(b:TA):Option TS:=bf (decide (d<f)) (bc (aZ e d fun a=>bc (rB N a h) fun g=>bf g.1 (aw b.length b (az (((b.length+[a].length)*80)<=140737488355328) (aw ((b++[a]).length) (b++[a]) (some (e,f,d,g.2,(b++[a])))))) (aw b.length b (some (e,f,d,g.2,b)))) fun c=>ck .i64 (c.2.2.1+1) (aw c.2.2.2.2.length c.2.2.2.2 (rec3 c.1 c.2.1 (c.2.2.1+1) c.2.2.2.1 c.2.2.2.2))) (aw b.length b (some (h,b)))
def dJ(N:Nat):Nat->TA->Int->Int->Int->TA->Option TS:=aN [(.sl tA),tC,tC,tC,(.sl tA)] (dN N)
def gK(N:Nat)(a:TA)(b:Int):Option TS:=dJ N N a (a.length:Int) 0 b ([]:TA)
abbrev sL(N:Nat):br:=⟨75,⟨[(0,dd (.sl tA)),(1,.clo 89 [.ptr (.B 0) 0])],[some (.box [dd tC])],[]⟩,[⟨[(0,.slw (.O 0) tA 0)],[some (.box [dd tC])],[some (.row true tA [])]⟩],gK N⟩
theorem sG(N:Nat):aF Tryz.prog (sL N):=xf N (tc (SW N) tn) [16,5000089,20] [⟨7,true,⟨[(1,.clo 89 [.ptr (.B 0) 0]),(5,.slw (.O 0) tA 0),(8,dd (.sl tA)),(9,dd tC),(10,dd tC)],[some (.box [dd tC])],[some (.row true tA [])]⟩⟩,⟨4,false,⟨[(1,.clo 89 [.ptr (.B 0) 0]),(5,.slw (.O 0) tA 0),(8,dd (.sl tA)),(9,dd tC),(10,dd tC)],[some (.box [dd tC])],[some (.row true tA [])]⟩⟩] 1 Tryz.func75 rfl (by kernel_rfl) fun a=>by kernel_rfl
def nG(N:Nat)(d:TG)(e:TA)(c:Int):Option TF:=bc (gL N d c) fun a=>az (c=a.1) (bc (gK N e a.1) fun b=>az (a.1=b.1) (aw a.2.length a.2 (aw b.2.length b.2 (some (c,(a.2,b.2))))))
abbrev P2(N:Nat):br:=⟨39,⟨[(0,dd (.sl tB)),(1,dd (.sl tA)),(2,dd tC)],[],[]⟩,[⟨[(0,.agg [dd tC,.slw (.O 0) tB 0,.slw (.O 1) tA 0])],[],[some (.row true tB []),some (.row true tA [])]⟩],nG N⟩
theorem PJ(N:Nat):aF Tryz.prog (P2 N):=xf N (tc (sN N) (tc (sG N) tn)) [5000075,7,5000072] [] 0 Tryz.func39 rfl (by kernel_rfl) fun a=>by kernel_rfl
def jK(N:Nat)(i:Int->Int->Int->TC->TG->TA->TL->TL->Option TW)(f c j:Int)(d:TC)(g:TG)(h:TA)(e b:TL):Option TW:=bf (decide (c<f)) (az (0<=c) (az (c<(d.length:Int)) (cr d c.toNat fun k=>bc (nG N g h k) fun a=>aw a.2.1.length a.2.1 (aw a.2.2.length a.2.2 (aw b.length b (az (((b.length+[a].length)*56)<=140737488355328) (ck .i64 (c+1) (aw d.length d (aw e.length e (aw ((b++[a]).length) (b++[a]) (i f (c+1) j d g h e (b++[a])))))))))))) (aw b.length b (some (0,b)))
def jE(N:Nat):Nat->Int->Int->Int->TC->TG->TA->TL->TL->Option TW:=aN [tC,tC,tC,(.sl tC),(.sl tB),(.sl tA),(.sl tD),(.sl tD)] (jK N)
def jI(N:Nat)(m:TA->Int->Int->Int->TC->TG->TA->TL->TL->Option TW)(g:TA)(h d i:Int)(a:TC)(j:TG)(k:TA)(b c:TL):Option TW:=bf (decide (d<h)) (aZ g d fun e=>aw a.length a (az (((a.length+[e.2.2.2.1].length)*8)<=140737488355328) (ck .i64 (d+1) (aw ((a++[e.2.2.2.1]).length) (a++[e.2.2.2.1]) (aw b.length b (aw c.length c (m g h (d+1) i (a++[e.2.2.2.1]) j k b c))))))) (aw a.length a (bc (gI N a) fun l=>aw a.length l (bc (eY N l) fun f=>aw f.length f (aw b.length b (aw c.length c (jE N N (f.length:Int) 0 i f j k b c))))))
def jL(N:Nat):Nat->TA->Int->Int->Int->TC->TG->TA->TL->TL->Option TW:=aN [(.sl tA),tC,tC,tC,(.sl tC),(.sl tB),(.sl tA),(.sl tD),(.sl tD)] (jI N)
def jG(N:Nat)(l:TG->Int->Int->Int->TA->TC->TG->TA->TL->TL->Option TW)(g:TG)(h d i:Int)(f:TA)(a:TC)(j:TG)(k:TA)(b c:TL):Option TW:=bf (decide (d<h)) (aZ g d fun e=>aw a.length a (az (((a.length+[e.2.2.2.2.2].length)*8)<=140737488355328) (ck .i64 (d+1) (aw ((a++[e.2.2.2.2.2]).length) (a++[e.2.2.2.2.2]) (aw b.length b (aw c.length c (l g h (d+1) i f (a++[e.2.2.2.2.2]) j k b c))))))) (aw a.length a (aw b.length b (aw c.length c (jL N N f (f.length:Int) 0 i a j k b c))))
def jO(N:Nat):Nat->TG->Int->Int->Int->TA->TC->TG->TA->TL->TL->Option TW:=aN [(.sl tB),tC,tC,tC,(.sl tA),(.sl tC),(.sl tB),(.sl tA),(.sl tD),(.sl tD)] (jG N)
def iX(N:Nat)(a:TG)(b:TA):Option TW:=bc (gM N a b) fun d=>bf (d !=0) (some (d,([]:TL))) (bc (qY N a b) fun c=>jO N N c.1 (c.1.length:Int) 0 0 c.2 ([]:TC) a b ([]:TL) ([]:TL))
abbrev YB(N:Nat):br:=⟨12,⟨[(0,dd (.sl tB)),(1,dd (.sl tA))],[],[]⟩,[⟨[(0,.slw (.O 0) tD 0),(1,dd tC)],[],[some (.row true tD [])]⟩],iX N⟩
theorem wV(N:Nat):aF Tryz.prog (YB N):=KN N (T:=[xF N,zB N,oD N,lI N,P2 N]) ⟨pM N,Sb N,xO N,uC N,PJ N,trivial⟩ [5000092,5000091,25] [⟨900017,false,⟨[(0,.yld),(38,.slw (.O 0) tC 0),(39,dd tC),(40,dd tC),(49,.gst .go),(52,.ptr (.O 1) 0),(53,.ptr (.O 2) 0),(54,.slw (.O 3) tD 0),(55,dd tC),(57,.ptr (.O 4) 0)],[],[some (.row true tC []),some (.box [dd (.sl tB)]),some (.box [dd (.sl tA)]),some (.row true tD []),some (.box [.slw (.O 5) tD 0]),some (.row true tD [])]⟩⟩,⟨900010,false,⟨[(0,.yld),(4,.slw (.O 0) tC 0),(23,dd (.sl tA)),(24,dd tC),(25,dd tC),(49,.gst .go),(52,.ptr (.O 1) 0),(53,.ptr (.O 2) 0),(54,.slw (.O 3) tD 0),(55,dd tC),(57,.ptr (.O 4) 0)],[],[some (.row true tC []),some (.box [dd (.sl tB)]),some (.box [dd (.sl tA)]),some (.row true tD []),some (.box [.slw (.O 5) tD 0]),some (.row true tD [])]⟩⟩,⟨900003,false,⟨[(0,.yld),(2,.ptr (.O 0) 0),(4,.slw (.O 1) tC 0),(11,dd (.sl tB)),(12,dd tC),(13,dd tC),(49,.gst .go),(52,.ptr (.O 2) 0),(53,.ptr (.O 3) 0),(54,.slw (.O 4) tD 0),(55,dd tC),(57,.ptr (.O 5) 0)],[],[some (.box [dd (.sl tA)]),some (.row true tC []),some (.box [dd (.sl tB)]),some (.box [dd (.sl tA)]),some (.row true tD []),some (.box [.slw (.O 6) tD 0]),some (.row true tD [])]⟩⟩] 0 [(8,90,[46,1000000,21,33,5000092,5000091])] Tryz.func12 rfl rfl (by kernel_rfl) (by rw[Tryz.ntmps12];decide) (fun a=>by kernel_rfl)
set_option maxRecDepth 8000
set_option synthInstance.maxSize 100000000
set_option synthInstance.maxHeartbeats 4000000
def lU(rec2:Int->Int->TC->Int->Int->Option (tg⊕TN))(d e:Int)(f:TC)(g c:Int):Option (tg⊕TN):=bf (decide (c<g)) (aZ f c fun h=>bc (bc (bf (c==9) (some (d,e,c,h,f,g,c,decide (h>1))) (some (d,e,c,h,f,g,c,false))) fun a=>bf a.2.2.2.2.2.2.2 (some (a.1,a.2.1,a.2.2.1,a.2.2.2.1,a.2.2.2.2.1,a.2.2.2.2.2.1,a.2.2.2.2.2.2.1,true)) (bf (decide (a.2.2.1>0)) (some (a.1,a.2.1,a.2.2.1,a.2.2.2.1,a.2.2.2.2.1,a.2.2.2.2.2.1,a.2.2.2.2.2.2.1,(a.2.2.2.1==0))) (some (a.1,a.2.1,a.2.2.1,a.2.2.2.1,a.2.2.2.2.1,a.2.2.2.2.2.1,a.2.2.2.2.2.2.1,false)))) fun b=>bf b.2.2.2.2.2.2.2 (zL (some (0,(0,11)))) (ck .i64 (7*b.2.2.1) (az (0<=(7*b.2.2.1)) (az ((7*b.2.2.1)<=(((abP .u64):Nat):Int)) (bf (decide (b.2.2.2.1<128)) (ck .i64 (b.2.2.1+1) (some (.inr ((bits .or .u64 b.1 (δ .u64 ((δ .u64 (bits .and .u8 b.2.2.2.1 127))*(2^(7*b.2.2.1).toNat)))),(b.2.2.1+1))))) (ck .i64 (b.2.2.2.2.2.2.1+1) (rec2 (bits .or .u64 b.1 (δ .u64 ((δ .u64 (bits .and .u8 b.2.2.2.1 127))*(2^(7*b.2.2.1).toNat)))) b.2.1 b.2.2.2.2.1 b.2.2.2.2.2.1 (b.2.2.2.2.2.2.1+1)))))))) (some (.inr (d,e)))
def iU:Nat->Int->Int->TC->Int->Int->Option (tg⊕TN):=aN [tK,tC,tH,tC,tC] (lU)
def gY(N:Nat)(b:TC):Option tg:=rz (iU N 0 0 b (b.length:Int) 0) fun a=>bf (a.2==0) (some (0,(0,10))) (ck .i64 (-(δ .i64 (bits .and .u64 a.1 1))) (some ((bits .xor .i64 (δ .i64 (a.1/(2^1))) (-(δ .i64 (bits .and .u64 a.1 1)))),(a.2,0))))
abbrev Rj(N:Nat):br:=⟨46,⟨[(0,dd tH)],[],[]⟩,[⟨[(0,dd tC),(1,dd tC),(2,dd tC)],[],[]⟩],gY N⟩
theorem oZ(N:Nat):aF Tryz.prog (Rj N):=xf N tn [] [⟨4,false,⟨[(5,dd tK),(6,dd tC)],[],[]⟩⟩,⟨12,true,⟨[(5,dd tK),(6,dd tC),(7,dd tC),(8,dd (.i .u8)),(9,dd tH),(10,dd tC),(11,dd tC),(24,dd .b)],[],[]⟩⟩,⟨13,true,⟨[(5,dd tK),(6,dd tC),(7,dd tC),(8,dd (.i .u8)),(9,dd tH),(10,dd tC),(11,dd tC),(24,dd .b)],[],[]⟩⟩,⟨6,false,⟨[(5,dd tK),(6,dd tC),(9,dd tH),(10,dd tC),(11,dd tC)],[],[]⟩⟩] 0 Tryz.func46 rfl (by kernel_rfl) fun a=>by kernel_rfl
def jA(N:Nat)(b:TC)(c:Int):Option tg:=bc (gY N b) fun a=>bf (a.2.2!=0) (some (0,(0,a.2.2))) (bf (decide (a.1<0)) (some (0,(0,11))) (ck .i64 ((b.length:Int)-a.2.1) (az (c≠0) (ck .i64 (ac2 ((b.length:Int)-a.2.1) c) (bf (decide (a.1>(ac2 ((b.length:Int)-a.2.1) c))) (some (0,(0,10))) (some (a.1,(a.2.1,0))))))))
abbrev aNg(N:Nat):br:=⟨136,⟨[(0,dd tH),(1,dd tC)],[],[]⟩,[⟨[(0,dd tC),(1,dd tC),(2,dd tC)],[],[]⟩],jA N⟩
theorem uG(N:Nat):aF Tryz.prog (aNg N):=xf N (tc (oZ N) tn) [] [] 0 Tryz.func136 rfl (by kernel_rfl) fun a=>by kernel_rfl
def QW(N:Nat)(rec4:TC->Int->Int->Int->TC->Option TY)(d:TC)(c f e:Int)(a:TC):Option TY:=bf (decide (e<f)) (az (0<=c) (az (c.toNat<=d.length) (az (d.length<=d.length) (bc (gY N (aaq (d.length-c.toNat) (aaD c.toNat d))) fun b=>bf (b.2.2!=0) (some (0,(b.2.2,([]:TC)))) (aw a.length a (az (((a.length+[b.1].length)*8)<=140737488355328) (ck .i64 (c+b.2.1) (ck .i64 (e+1) (aw ((a++[b.1]).length) (a++[b.1]) (rec4 d (c+b.2.1) f (e+1) (a++[b.1]))))))))))) (aw a.length a (some (c,(0,a))))
def aHb(N:Nat):Nat->TC->Int->Int->Int->TC->Option TY:=aN [tH,tC,tC,tC,(.sl tC)] (QW N)
def yY(N:Nat)(b:TC)(c:Int):Option TY:=bc (jA N b c) fun a=>bf (a.2.2!=0) (some (0,(a.2.2,([]:TC)))) (aHb N N b a.2.1 a.1 0 ([]:TC))
abbrev Z4(N:Nat):br:=⟨162,⟨[(0,dd tH),(1,dd tC),(2,.clo 46 [])],[],[]⟩,[⟨[(0,.slw (.O 0) tC 0),(1,dd tC),(2,dd tC)],[],[some (.row true tC [])]⟩],yY N⟩
theorem Qv(N:Nat):aF Tryz.prog (Z4 N):=xf N (tc (uG N) (tc (oZ N) tn)) [44] [⟨8,false,⟨[(0,dd tH),(2,.clo 46 []),(10,dd tC),(12,.slw (.O 0) tC 0),(26,dd tC),(27,dd tC)],[],[some (.row true tC [])]⟩⟩] 0 Tryz.func162 rfl (by kernel_rfl) fun a=>by kernel_rfl
def xW(N:Nat)(b:TC):Option TY:=bc (yY N b 1) fun a=>aw a.2.2.length a.2.2 (some a)
abbrev Td(N:Nat):br:=⟨137,⟨[(0,dd tH)],[],[]⟩,[⟨[(0,.slw (.O 0) tC 0),(1,dd tC),(2,dd tC)],[],[some (.row true tC [])]⟩],xW N⟩
theorem Yg(N:Nat):aF Tryz.prog (Td N):=xf N (tc (Qv N) tn) [] [] 0 Tryz.func137 rfl (by kernel_rfl) fun a=>by kernel_rfl
def eJ(N:Nat)(a:Bool):Option (Unit⊕Unit):=bf (!a) (some (.inr ())) (some (.inl ()))
abbrev Ml(N:Nat):br:=⟨99,⟨[(0,dd .b)],[],[]⟩,[⟨[],[],[]⟩,⟨[(1000000,.c (.iface 215 (.agg #[])))],[],[]⟩],eJ N⟩
theorem yX(N:Nat):aF Tryz.prog (Ml N):=xf N tn [] [] 0 Tryz.func99 rfl (by kernel_rfl) fun a=>by kernel_rfl
def xJ(N:Nat)(b:TC):Option (cc×TN):=bc (jA N b 1) fun a=>bf (a.2.2!=0) (some (([]:cc),(0,a.2.2))) (ck .i64 (a.2.1+a.1) (az (0<=(a.2.1+a.1)) (az (0<=a.2.1) (az (a.2.1.toNat<=(a.2.1+a.1).toNat) (az ((a.2.1+a.1).toNat<=b.length) (ck .i64 (a.2.1+a.1) (some ((bE (aaq ((a.2.1+a.1).toNat-a.2.1.toNat) (aaD a.2.1.toNat b))),((a.2.1+a.1),0)))))))))
abbrev aIe(N:Nat):br:=⟨96,⟨[(0,dd tH)],[],[]⟩,[⟨[(0,dd .s),(1,dd tC),(2,dd tC)],[],[]⟩],xJ N⟩
theorem U5(N:Nat):aF Tryz.prog (aIe N):=xf N (tc (uG N) tn) [] [] 0 Tryz.func96 rfl (by kernel_rfl) fun a=>by kernel_rfl
def XU(N:Nat)(rec4:TC->Int->Int->Int->TK->Option TZ)(d:TC)(c f e:Int)(a:TK):Option TZ:=bf (decide (e<f)) (az (0<=c) (az (c.toNat<=d.length) (az (d.length<=d.length) (bc (xJ N (aaq (d.length-c.toNat) (aaD c.toNat d))) fun b=>bf (b.2.2!=0) (some (0,(b.2.2,([]:TK)))) (aw a.length a (az (((a.length+[b.1].length)*16)<=140737488355328) (ck .i64 (c+b.2.1) (ck .i64 (e+1) (aw ((a++[b.1]).length) (a++[b.1]) (rec4 d (c+b.2.1) f (e+1) (a++[b.1]))))))))))) (aw a.length a (some (c,(0,a))))
def aBo(N:Nat):Nat->TC->Int->Int->Int->TK->Option TZ:=aN [tH,tC,tC,tC,(.sl .s)] (XU N)
def sV(N:Nat)(b:TC)(c:Int):Option TZ:=bc (jA N b c) fun a=>bf (a.2.2!=0) (some (0,(a.2.2,([]:TK)))) (aBo N N b a.2.1 a.1 0 ([]:TK))
abbrev Vu(N:Nat):br:=⟨95,⟨[(0,dd tH),(1,dd tC),(2,.clo 96 [])],[],[]⟩,[⟨[(0,.slw (.O 0) .s 0),(1,dd tC),(2,dd tC)],[],[some (.row true .s [])]⟩],sV N⟩
theorem ZZ(N:Nat):aF Tryz.prog (Vu N):=xf N (tc (uG N) (tc (U5 N) tn)) [44] [⟨8,false,⟨[(0,dd tH),(2,.clo 96 []),(10,dd tC),(12,.slw (.O 0) .s 0),(26,dd tC),(27,dd tC)],[],[some (.row true .s [])]⟩⟩] 0 Tryz.func95 rfl (by kernel_rfl) fun a=>by kernel_rfl
def nQ(N:Nat)(b:TC):Option TZ:=bc (sV N b 1) fun a=>aw a.2.2.length a.2.2 (some a)
abbrev R9(N:Nat):br:=⟨47,⟨[(0,dd tH)],[],[]⟩,[⟨[(0,.slw (.O 0) .s 0),(1,dd tC),(2,dd tC)],[],[some (.row true .s [])]⟩],nQ N⟩
theorem tY(N:Nat):aF Tryz.prog (R9 N):=xf N (tc (ZZ N) tn) [] [] 0 Tryz.func47 rfl (by kernel_rfl) fun a=>by kernel_rfl
def yD(N:Nat)(e:cc)(g h:Int)(f:Bool):Option ((TC×TK)⊕Unit):=bc (xW N (cJ e)) fun b=>rz (bf (b.2.1==0) (bf ((b.2.2.length:Int)==h) (az (0<(b.2.2.length:Int)) (cr b.2.2 (0) fun i=>bc (eJ N (i==g)) fun j=>nh j (fun p=>aw b.2.2.length b.2.2 (some (.inr (e,f,b.1,b.2.2)))) (fun b9=>zL (some (.inr ()))))) (bc (eJ N false) fun k=>nh k (fun q=>aw b.2.2.length b.2.2 (some (.inr (e,f,b.1,b.2.2)))) (fun b12=>zL (some (.inr ()))))) (bc (eJ N false) fun l=>nh l (fun r=>aw b.2.2.length b.2.2 (some (.inr (e,f,b.1,b.2.2)))) (fun b15=>zL (some (.inr ()))))) fun a=>bf (!a.2.1) (bc (eJ N (a.2.2.1==(a.1.length:Int))) fun m=>nh m (fun s=>aw a.2.2.2.length a.2.2.2 (some (.inl (a.2.2.2,([]:TK))))) (fun b19=>some (.inr ()))) (az (0<=a.2.2.1) (az (a.2.2.1.toNat<=a.1.length) (az (a.1.length<=a.1.length) (bc (nQ N (cJ (aaq (a.1.length-a.2.2.1.toNat) (aaD a.2.2.1.toNat a.1)))) fun c=>rz (bf (c.2.1==0) (ck .i64 (a.2.2.1+c.1) (bc (eJ N ((a.2.2.1+c.1)==(a.1.length:Int))) fun n=>nh n (fun t=>aw a.2.2.2.length a.2.2.2 (aw c.2.2.length c.2.2 (some (.inr (a.2.2.2,c.2.2))))) (fun b23=>zL (some (.inr ()))))) (bc (eJ N false) fun o=>nh o (fun u=>aw a.2.2.2.length a.2.2.2 (aw c.2.2.length c.2.2 (some (.inr (a.2.2.2,c.2.2))))) (fun b26=>zL (some (.inr ()))))) fun d=>aw d.1.length d.1 (aw d.2.length d.2 (some (.inl d)))))))
abbrev yZ(N:Nat):br:=⟨98,⟨[(0,dd .s),(1,dd tC),(2,dd tC),(3,dd .b)],[],[]⟩,[⟨[(0,dd (.sl tC)),(1,dd (.sl .s))],[],[]⟩,⟨[(1000000,.c (.iface 215 (.agg #[])))],[],[]⟩],yD N⟩
theorem MB(N:Nat):aF Tryz.prog (yZ N):=xf N (tc (Yg N) (tc (yX N) (tc (tY N) tn))) [4000099] [⟨8,false,⟨[(10,.slw (.O 0) tC 0),(13,.slw (.O 1) .s 0)],[],[some (.row true tC []),some (.row true .s [])]⟩⟩,⟨2,false,⟨[(0,dd .s),(3,dd .b),(10,.slw (.O 0) tC 0),(11,dd tC)],[],[some (.row true tC [])]⟩⟩] 0 Tryz.func98 rfl (by kernel_rfl) fun a=>by kernel_rfl
def sW(N:Nat)(b:cc):Option (TB×Int):=bc (yD N b 1 7 false) fun c=>nh c (fun a=>aZ a.1 (1) fun d=>aZ a.1 (2) fun e=>aZ a.1 (3) fun f=>aZ a.1 (4) fun g=>aZ a.1 (5) fun h=>aZ a.1 (6) fun i=>bc (pW N 0) fun j=>some ((d,(e,(f,(g,(h,i))))),j)) (fun b4=>bc (eI N 0) fun k=>some ((0,(0,(0,(0,(0,0))))),k))
abbrev aD8(N:Nat):br:=⟨48,⟨[(0,dd .s)],[],[]⟩,[⟨[(0,dd tB),(1,dd tC)],[],[]⟩],sW N⟩
theorem SP(N:Nat):aF Tryz.prog (aD8 N):=PB N (T:=[yZ N]) ⟨MB N,trivial⟩ [4000098,3000012,3000013,3000015,3000016,3000018,3000019,3000021,3000022,3000024,3000025,3000027,3000028] [] (gr:=pN N) (gp:=pR N) (pv:=lM) (xK N) (xB N) Tryz.func48 rfl rfl (by kernel_rfl) (by kernel_rfl) (by rw[Tryz.ntmps48];decide) (fun a=>by kernel_rfl)
def Ga(N:Nat)(b:cc):Option (Int⊕Unit):=bc (gY N (cJ b)) fun a=>rz (bf (a.2.2==0) (bc (eJ N (a.2.1==(b.length:Int))) fun c=>nh c (fun f=>some (.inr a.1)) (fun b5=>zL (some (.inr ())))) (bc (eJ N false) fun d=>nh d (fun g=>some (.inr a.1)) (fun b8=>zL (some (.inr ()))))) fun e=>some (.inl e)
abbrev OD(N:Nat):br:=⟨100,⟨[(0,dd .s)],[],[]⟩,[⟨[(0,dd tC)],[],[]⟩,⟨[(1000000,.c (.iface 215 (.agg #[])))],[],[]⟩],Ga N⟩
theorem aVu(N:Nat):aF Tryz.prog (OD N):=xf N (tc (oZ N) (tc (yX N) tn)) [4000099] [⟨2,false,⟨[(3,dd tC)],[],[]⟩⟩] 0 Tryz.func100 rfl (by kernel_rfl) fun a=>by kernel_rfl
def aA6(N:Nat)(r:TC->TK->Int->Int->Int->Int->Int->Int->Int->Int->TE->TE->Option TP)(d:TC)(m:TK)(e f:Int)(g h:Int)(i j:Int)(k l:Int)(c a:TE):Option TP:=bf (decide ((m.length:Int)>0)) (aZ m (0) fun s=>aZ m (1) fun t=>bc (Ga N s) fun u=>nh u (fun q=>bc (Ga N t) fun v=>nh v (fun n=>rz (bf (n==0) (bc (eJ N true) fun w=>nh w (fun ak=>aw c.length c (aw a.length a (some (.inr (d,m,q,n,e,f,g,h,i,j,k,l,c,a))))) (fun b31=>zL (bc (eI N l) fun x=>aw c.length c (some (e,(f,(g,(h,(i,(j,(k,(c,x)))))))))))) (bc (eJ N (n==1)) fun y=>nh y (fun al=>aw c.length c (aw a.length a (some (.inr (d,m,q,n,e,f,g,h,i,j,k,l,c,a))))) (fun b35=>zL (bc (eI N l) fun z=>aw c.length c (some (e,(f,(g,(h,(i,(j,(k,(c,z))))))))))))) fun b=>aZ b.2.1 (2) fun o=>aZ b.2.1 (3) fun p=>aw b.2.2.2.2.2.2.2.2.2.2.2.2.2.length b.2.2.2.2.2.2.2.2.2.2.2.2.2 (az (((b.2.2.2.2.2.2.2.2.2.2.2.2.2.length+[(b.2.2.1,((b.2.2.2.1==1),(o,p)))].length)*48)<=140737488355328) (az (4<=b.2.1.length) (az (b.2.1.length<=b.2.1.length) (aw b.2.2.2.2.2.2.2.2.2.2.2.2.1.length b.2.2.2.2.2.2.2.2.2.2.2.2.1 (aw ((b.2.2.2.2.2.2.2.2.2.2.2.2.2++[(b.2.2.1,((b.2.2.2.1==1),(o,p)))]).length) (b.2.2.2.2.2.2.2.2.2.2.2.2.2++[(b.2.2.1,((b.2.2.2.1==1),(o,p)))]) (r b.1 (aaq (b.2.1.length-4) (aaD 4 b.2.1)) b.2.2.2.2.1 b.2.2.2.2.2.1 b.2.2.2.2.2.2.1 b.2.2.2.2.2.2.2.1 b.2.2.2.2.2.2.2.2.1 b.2.2.2.2.2.2.2.2.2.1 b.2.2.2.2.2.2.2.2.2.2.1 b.2.2.2.2.2.2.2.2.2.2.2.1 b.2.2.2.2.2.2.2.2.2.2.2.2.1 (b.2.2.2.2.2.2.2.2.2.2.2.2.2++[(b.2.2.1,((b.2.2.2.1==1),(o,p)))])))))))) (fun b28=>bc (eI N l) fun aa=>aw c.length c (some (e,(f,(g,(h,(i,(j,(k,(c,aa))))))))))) (fun b25=>bc (eI N l) fun ab=>aw c.length c (some (e,(f,(g,(h,(i,(j,(k,(c,ab))))))))))) (aZ d (1) fun ac=>aZ d (2) fun ad=>aZ d (3) fun ae=>aZ d (4) fun af=>aZ d (5) fun ag=>aZ d (6) fun ah=>aZ d (7) fun ai=>az (a.length=a.length) (az (a.length=a.length) (az (a.length=a.length) (az (a.length=a.length) (az (a.length=a.length) (az (a.length=a.length) (az (a.length=a.length) (az (a.length=a.length) (az (a.length=a.length) (az (a.length=a.length) (az (a.length=a.length) (az (a.length=a.length) (az (a.length=a.length) (az (a.length=a.length) (az (a.length=a.length) (az (a.length=a.length) (az (a.length=a.length) (bc (pW N 0) fun aj=>aw a.length a (some (ac,(ad,(ae,(af,(ag,(ah,(ai,(a,aj)))))))))))))))))))))))))))
def Wu(N:Nat):Nat->TC->TK->Int->Int->Int->Int->Int->Int->Int->Int->TE->TE->Option TP:=aN [(.sl tC),(.sl .s),tC,tC,tC,tC,tC,tC,tC,tC,(.sl tE),(.sl tE)] (aA6 N)
def uB(N:Nat)(b:cc):Option TP:=bc (yD N b 2 8 true) fun c=>nh c (fun a=>bc (eJ N ((aa4 (a.2.length:Int) 4)==0)) fun d=>nh d (fun g=>Wu N N a.1 a.2 0 0 0 0 0 0 0 0 ([]:TE) ([]:TE)) (fun b7=>bc (eI N 0) fun e=>some (0,(0,(0,(0,(0,(0,(0,(([]:TE),e)))))))))) (fun b4=>bc (eI N 0) fun f=>some (0,(0,(0,(0,(0,(0,(0,(([]:TE),f)))))))))
abbrev QN(N:Nat):br:=⟨49,⟨[(0,dd .s)],[],[]⟩,[⟨[(0,.agg [dd tC,dd tC,dd tC,dd tC,dd tC,dd tC,dd tC,dd (.sl tE)]),(1,dd tC)],[],[]⟩],uB N⟩
theorem Y1(N:Nat):aF Tryz.prog (QN N):=PB N (T:=[yZ N,Ml N,OD N]) ⟨MB N,yX N,aVu N,trivial⟩ [3000023,3000024,3000027,3000028,4000100,4000099,4000098,3000056,3000057,3000059,3000060,3000062,3000063,3000065,3000066,3000068,3000069,3000071,3000072,3000074,3000075,76,51] [⟨8,false,⟨[(2,.ptr (.O 0) 0),(3,.ptr (.O 1) 0),(4,dd (.sl tC)),(5,dd (.sl .s)),(6,.ptr (.O 2) 0),(7,dd tC),(8,dd tC),(86,.ptr (.O 1) 0)],[],[some (.box [dd tC,dd tC,dd tC,dd tC,dd tC,dd tC,dd tC,.slw (.O 3) tE 0]),some (.box [dd tC]),some (.box [.slw (.O 4) tE 0]),some (.row true tE []),some (.row true tE [])]⟩⟩,⟨4,false,⟨[(2,.ptr (.O 0) 0),(3,.ptr (.O 1) 0),(4,dd (.sl tC)),(5,dd (.sl .s)),(6,.ptr (.O 2) 0),(86,.ptr (.O 1) 0)],[],[some (.box [dd tC,dd tC,dd tC,dd tC,dd tC,dd tC,dd tC,.slw (.O 3) tE 0]),some (.box [dd tC]),some (.box [.slw (.O 4) tE 0]),some (.row true tE []),some (.row true tE [])]⟩⟩] (gr:=pN N) (gp:=pR N) (pv:=lM) (xK N) (xB N) Tryz.func49 rfl rfl (by kernel_rfl) (by kernel_rfl) (by rw[Tryz.ntmps49];decide) (fun a=>by kernel_rfl)
end Go.Proofs.Tryz
namespace Go.Proofs
open Go.Shelf
def Tryz.my:Go.Shelf.Ren:=⟨fun|169=>45|n=>n,fun|70=>94|9=>9|0=>0|72=>96|37=>80|127=>172|3=>3|5=>5|n=>n,fun|n=>n⟩
end Go.Proofs
namespace Go.Proofs
open Go.Shelf Go.RowKit
theorem Tryz.qc:Builder.Extra Tryz.prog Tryz.my where
 sizeBuilder:=by kernel_rfl
 liesBuilder:=by kernel_rfl
 t5:=Tryz.underlying5
 a5:=Tryz.isAgg5
 z5:=Tryz.sizeOf5
 v5:=Tryz.zeroValue5
 infoByte:=by kernel_rfl
 cellsByte:=by kernel_rfl
 sizeByte:=by kernel_rfl
 neB5:=by decide
set_option maxHeartbeats 1000000 in
set_option maxRecDepth 100000 in
theorem Tryz.uq(b:Nat)(w:World)(h0:w.cell? ⟨b,0,none⟩=some (.pointer (some ⟨b,0,none⟩))):
  Calls Tryz.prog 93 #[.pointer (some ⟨b,0,none⟩)] w fun e w'=>e=.returned (.tuple #[])/\w'=w:=by
 obtain⟨j,hj,_⟩:=ι.1 Tryz.qc.sizeBuilder
 go_enter Tryz.func93,Tryz.ntmps93
 go_wp2
 rw[Lib.run_neq_ptr_same w _ Tryz.underlying94 hj]
 go_wp2
 go_end0
 exact⟨rfl,rfl⟩
set_option maxHeartbeats 1000000 in
set_option maxRecDepth 100000 in
theorem Tryz.rf(b:Nat)(w:World)(h0:w.cell? ⟨b,0,none⟩=some (.pointer none))(hsh:w.shape? b=some (96,2))(hfz:w.frozen? ⟨b,0,none⟩=false):
  Calls Tryz.prog 93 #[.pointer (some ⟨b,0,none⟩)] w fun e w'=>e=.returned (.tuple #[])/\w'=w.setCell ⟨b,0,none⟩ (.pointer (some ⟨b,0,none⟩)):=by
 obtain⟨j,hj,hjs⟩:=ι.1 Tryz.qc.sizeBuilder
 go_enter Tryz.func93,Tryz.ntmps93
 go_wp2
 rw[Lib.run_to_unsafe w ⟨b,0,none⟩ Tryz.underlying94 Tryz.underlying212 hj (by rw[hjs];decide) hsh (Nat.zero_lt_succ 1)];simp only[Result.andThen];rw[Oper.upon_value]
 go_wp2
 rw[run_callFunc_extern Tryz.func135 (by kernel_rfl) (by kernel_rfl) (by kernel_rfl) (e:=Extern.AbiNoEscape.same) (by kernel_rfl)];rw[Lib.run_noEscape];simp only[Result.andThen];rw[Oper.upon_value]
 go_wp2
 rw[Lib.run_from_unsafe w ⟨b,0,none⟩ Tryz.underlying212 Tryz.underlying94 hj hsh Tryz.qc.liesBuilder];simp only[Result.andThen];rw[Oper.upon_value]
 go_wp2
 go_end0
 exact⟨rfl,rfl⟩
end Go.Proofs
namespace Go.Proofs
open Go.RowKit
variable{p:Program}
theorem aWc{at_:Addr}{u:TypeId}{a:Addr}{v:Value}{b:Bool}{w:World}{r:World×List Addr}(h:w.viewStore p at_ u a v b=.ok r):r.1.drawn=w.drawn:=by
 unfold World.viewStore at h;simp only[bind,Except.bind,pure,Except.pure]at h
 repeat' split at h
 all_goals first|(cases h;done)|(cases h;rfl)
theorem bAw{a:Addr}{v:Value}{b:Bool}{w w':World}{l:List Addr}(h:w.farStore p a v b=.ok (w',l)):w'.drawn=w.drawn:=by
 unfold World.farStore at h;split at h
 ·split at h
  ·rename_i r hr;cases h;exact aWc hr
  ·cases h
 ·cases h
theorem T6{α:Type}:∀(q:Ask α) (w:World),w.drawn<=(w.ask q).2.drawn:=fun q=>by
 induction q with
 |done a=>intro w;exact me _
 |ask what range k ih=>
  intro w;unfold World.ask;dsimp only;split
  ·exact ih _ _
  ·exact Nat.le_of_succ_le (ih _ {w with drawn:=w.drawn+1})
theorem VF(w:World)(c:Sys):w.drawn<=(w.sys c).2.drawn:=by
 have h:=T6 (Kernel.perform c w.os) w;unfold World.sys;split
 ·exact me _
 ·rename_i e;rw[e]at h;exact h
theorem QZ(w:World)(a:Addr)(n:Nat):(w.freeze a n).drawn=w.drawn:=by
 unfold World.freeze
 repeat' split
 all_goals rfl
theorem bAm{P:Program}{α:Type}:∀(s:Sem α) (w w':World) (a:α),s.run P w=.ok a w'->w.drawn<=w'.drawn:=fun s=>by
  induction s with
  |pure a=>intro w w' b h;cases h;exact me _
  |halt h=>intro w w' b h;cases h
  | choose q k ih =>
    intro w w' b h;unfold Sem.run at h;split at h
    · exact ih _ _ _ _ h
    · exact Nat.le_of_succ_le (ih _ _ _ _ h)
  | load m a k ih =>
    intro w w' b h;unfold Sem.run at h;split at h
    · exact ih _ _ _ _ h
    · split at h
      · exact ih _ _ _ _ h
      · cases h
  | store m a v k ih =>
    intro w w' b h;cases v<;>unfold Sem.run at h<;>first
      |(cases h;done)
      | (split at h
         · split at h
           · cases h
           · have:=ih _ _ _ h;exact this
         · split at h
           · rename_i hf;have:=ih _ _ _ h;rw[bAw hf]at this;exact this
           · cases h)
  |new o k ih=>intro w w' b h;unfold Sem.run at h;have:=ih _ _ _ _ h;exact this
  |shape r k ih=>intro w w' b h;unfold Sem.run at h;exact ih _ _ _ _ h
  |freeze a n k ih=>intro w w' b h;unfold Sem.run at h;have:=ih _ _ _ h;rw[QZ]at this;exact this
  |frozen a k ih=>intro w w' b h;unfold Sem.run at h;exact ih _ _ _ _ h
  | getObj r k ih =>
    intro w w' b h;unfold Sem.run at h;split at h
    · cases h
    · exact ih _ _ _ _ h
    · cases h
  | setObj r o k ih =>
    intro w w' b h;unfold Sem.run at h;split at h
    · cases h
    · have:=ih _ _ _ h;exact this
    · cases h
  | sys c k ih =>
    intro w w' b h;unfold Sem.run at h;exact Nat.le_trans (VF w c) (ih _ _ _ _ h)
  |program k ih=>intro w w' b h;unfold Sem.run at h;exact ih _ _ _ _ h
  |mark m k ih=>intro w w' b h;unfold Sem.run at h;exact ih _ _ _ h
end Go.Proofs
namespace Go.Proofs
open Go.Shelf Go.RowKit
structure Tryz.Hv (b:Nat) (p:Value) (n:Nat) (xs:List Value) (w:World) (v:Value):Prop where
 fh:w.heap[b]?=some (.cells #[p,v] 96 (0,0))
 own:w.ownsRow 0 5 1 v n xs
 ne:v.ownBlock≠some b
theorem Tryz.xa(b:Nat)(us:Bool)(w:World)(v:Value)(hbk:w.heap[b]?=some (.cells #[.pointer (if us=true then some ⟨b,0,none⟩else none),v] 96 (0,0))):
  Calls Tryz.prog 93 #[.pointer (some ⟨b,0,none⟩)] w fun e w'=>e=.returned (.tuple #[])/\w'.heap[b]?=some (.cells #[.pointer (some ⟨b,0,none⟩),v] 96 (0,0))/\w.grownBy w' (some b)/\w'.heap.size=w.heap.size/\w'.drawn=w.drawn:=by
 cases us with
 |true=>
  refine(Tryz.uq b w (by rw[Lib.cell_of_heap hbk];rfl)).mono ?_;rintro e w' ⟨rfl,rfl⟩;exact⟨rfl,hbk,⟨rfl,rfl,rfl,me _,fun _ _ _=>rfl⟩,rfl,rfl⟩
 |false=>
  refine(Tryz.rf b w (by rw[Lib.cell_of_heap hbk];rfl) (by simp[World.shape?,hbk]) (Lib.frozen_of_heap hbk 0)).mono ?_;rintro e w' ⟨rfl,rfl⟩;refine⟨rfl,?_,⟨rfl,rfl,rfl,by simp[World.setCell],fun k _ hk=>Below.heap_setCell _ _ _ _ (fun e=>hk (by simp[e]))⟩,by simp[World.setCell],rfl⟩;simp[World.setCell,acu,hbk]
theorem Tryz.Cc{ops:Array Oper}{rest:List Oper}{o:Oper}{a:Act}{Q:Exit->Act->World->Prop}(w:World)(hgd:o.guard=none)(s x:Operand)
  (ho:o.op=.call {callee:=.builtin .append,args:=#[s,x],argTypes:=#[80,80]}) (v:Value) (n:Nat) (xs:List Value) (hs:a.eval s=v) (hown:w.ownsRow 0 5 1 v n xs)
  (ad:Addr) (m c:Nat) (news:List Value) (hx:a.eval x=.slice (some ad) m c) (hl:news.length=m*1) (hnews:∀j u,news[j]?=some u->w.cell? (ad.add j)=some u) (h1:∀u∈news,u.oneCell'=true)
  (h63:n+m<=maxLen) (hb:(n+m)*1<=140737488355328)
  (h:∀v' w',w'.ownsRow 0 5 1 v' (n+m) (xs++news)->w.grownBy w' v.ownBlock->(v'=.slice none 0 0↔v=.slice none 0 0/\m=0)->(v'.ownBlock=v.ownBlock\/v'.ownBlock=some w.heap.size)->w.drawn<=w'.drawn->wpList Tryz.prog ops Q rest (a.put o.dst v') w'):
  wpList Tryz.prog ops Q (o::rest) a w:=by obtain⟨i0,hi,hz0,hz1,hz2⟩:=info_parts Tryz.qc.infoByte;refine wpList_plain hgd fun K hK=>?_;obtain⟨v',w',hr,h2,h3,h4,h5⟩:=run_append_own_at (P:=Tryz.prog) w 0 80 o.type 5 i0 _ 1 1 Tryz.underlying80 hi hz0 hz1 hz2 rfl (by decide) v n xs hown ad m c news hl hnews h1 h63 hb (aba _);unfold Oper.wp execOp;simp only[ho,resolve,invoke,builtin,Sem.run_bind,Sem.run_pure,Result.andThen_ok,List.map_toArray,aaM,List.map_nil,hs,hx,hr];exact hK _ _ (h v' w' h2 h3 h4 h5 (bAm _ _ _ _ hr))
set_option maxHeartbeats 2000000 in
set_option maxRecDepth 100000 in
theorem Tryz.te(b:Nat)(us:Bool)(n:Nat)(xs:List Value)(v:Value)(w:World)(h:Tryz.Hv b (.pointer (if us=true then some ⟨b,0,none⟩else none)) n xs w v)
  (ad:Addr) (m c:Nat) (news:List Value) (hl:news.length=m) (hnews:∀j u,news[j]?=some u->w.cell? (ad.add j)=some u) (h1:∀u∈news,u.oneCell'=true) (had:ad.block≠b) (hlen:n+m<=140737488355328):
  Calls Tryz.prog 41 #[.pointer (some ⟨b,0,none⟩),.slice (some ad) m c] w fun e w'=>e=.returned (.tuple #[.int .i64 m,.nilIface])/\
   ∃v',Tryz.Hv b (.pointer (some ⟨b,0,none⟩)) (n+m) (xs++news) w' v'/\w'.os=w.os/\w'.tape=w.tape/\w'.output=w.output/\w.heap.size<=w'.heap.size/\(∀k,k<w.heap.size->k≠b->some k≠v.ownBlock->w'.heap[k]?=w.heap[k]?)/\(v'=.slice none 0 0↔v=.slice none 0 0/\m=0)/\w.drawn<=w'.drawn/\(v'.ownBlock=v.ownBlock\/v'.ownBlock=some w.heap.size):=by
 obtain⟨i0,hi,hz0,hz1,hz2⟩:=info_parts Tryz.qc.infoByte
 go_enter Tryz.func41,Tryz.ntmps41
 go_wp2_with (go_at_call 93;refine(Tryz.xa b us _ v h.fh).mono ?_)
 rintro e w1 ⟨rfl,hbk,hg1,hs1,hd1⟩;have hown:w1.ownsRow 0 5 1 v n xs:=by
  refine⟨h.own.1,?_⟩;rcases h.own.2 with hn|⟨g,cap,cur,q1,q2,q3,q4⟩
  ·exact .inl hn
  ·refine .inr ⟨g,cap,cur,q1,q2,?_,q4⟩;have hgb:g≠b:=fun e=>h.ne (by rw[q1];simp[Value.ownBlock,e]);rw[hg1.block g (aad.1 q3).1 (by simp[hgb])];exact q3
 have hadb:∀j,(ad.add j).block=ad.block:=fun j=>by unfold Addr.add;split<;>rfl
 have hnews1:∀j u,news[j]?=some u->w1.cell? (ad.add j)=some u:=fun j u hj=>by
  have q:=hnews j u hj;have hlt:ad.block<w.heap.size:=by
   rcases Nat.lt_or_ge ad.block w.heap.size with h'|h'
   ·exact h'
   ·have hz:w.heap[(ad.add j).block]?=none:=acm (by rw[hadb];exact h');simp[World.cell?,hz]at q
  have e:w1.heap[(ad.add j).block]?=w.heap[(ad.add j).block]?:=hg1.block _ (by rw[hadb];exact hlt) (by rw[hadb];exact fun e=>had (Option.some.inj e));have:w1.cell? (ad.add j)=w.cell? (ad.add j):=by simp only[World.cell?,e]
  rw[this];exact q
 have c0:w1.cell? ⟨b,0,none⟩=some (.pointer (some ⟨b,0,none⟩)):=by rw[Lib.cell_of_heap hbk];rfl
 have c1:w1.cell? ⟨b,1,none⟩=some v:=by rw[Lib.cell_of_heap hbk];rfl
 go_wp2_with (at_builtin;go_loud (refine Tryz.Cc _ rfl _ _ rfl _ _ _ rfl hown ad m c news rfl (by rw[hl,aaN]) hnews1 h1 ?c3 ?c4 ?_))
 case c3=>unfold maxLen;omega
 case c4=>omega
 intro v' w2 hown' hgrow hnil hat hdr;have hlt:b<w1.heap.size:=(aad.1 hbk).1;have hb2:w2.heap[b]?=some (.cells #[.pointer (some ⟨b,0,none⟩),v] 96 (0,0)):=by rw[hgrow.block b hlt (fun e=>h.ne e.symm)];exact hbk
 have d0:w2.cell? ⟨b,0,none⟩=some (.pointer (some ⟨b,0,none⟩)):=by rw[Lib.cell_of_heap hb2];rfl
 have d1:w2.cell? ⟨b,1,none⟩=some v:=by rw[Lib.cell_of_heap hb2];rfl
 have f1:w2.frozen? ⟨b,1,none⟩=false:=Lib.frozen_of_heap hb2 1;obtain⟨ao,n',cap,rfl⟩:∃ao n' cap,v'=.slice ao n' cap:=by
  rcases hown'.2 with⟨hv,_⟩|⟨g,cap,cur,hv,_⟩
  ·exact⟨_,_,_,hv⟩
  ·exact⟨_,_,_,hv⟩
 go_wp2
 go_ret2
 have hxs:(xs++news).length=n+m:=by rw[ε,hl,h.own.1,aaN]
 have hput:=Lib.BuilderAt.put (T:=96) (e:=5) (aba b) hb2 (bs':=xs++news) (by rw[hxs];exact hown') (by decide);obtain⟨_,v2,p1,p2,p3⟩:=hput;have ev:v2=.slice ao n' cap:=by simp[World.setCell,acu,hb2]at p1;exact p1.symm
 subst ev;refine⟨rfl,_,⟨p1,by rw[hxs]at p2;exact p2,p3⟩,?_,?_,?_,?_,?_,hnil,?_,?_⟩
 ·exact hgrow.os.trans hg1.os
 ·exact hgrow.tape.trans hg1.tape
 ·exact hgrow.output.trans hg1.output
 ·have:=hgrow.size;simp[World.setCell];omega
 ·intro k hk hkb hkv;rw[Below.heap_setCell _ _ _ _ (fun e=>hkb (by simp[e]))];rw[hgrow.block k (by omega) hkv,hg1.block k hk (by simp[hkb])]
 ·exact hd1▸hdr
 ·exact hat
set_option maxHeartbeats 1000000 in
set_option maxRecDepth 100000 in
theorem Tryz.rp(b g cap:Nat)(p:Value)(cur:Array Value)(l:List UInt8)(w:World)(hbk:w.heap[b]?=some (.cells #[p,.slice (some ⟨g,0,none⟩) l.length cap] 96 (0,0)))
  (hown:w.ownsRow 0 5 1 (.slice (some ⟨g,0,none⟩) l.length cap) l.length (Lib.byteCells l)) (h0:l≠[]):
  Calls Tryz.prog 45 #[.pointer (some ⟨b,0,none⟩)] w fun e w'=>e=.returned (.string ⟨l.toArray⟩)/\w'=w.drew.freeze ⟨g,0,none⟩ l.length:=by
 have hl0:l.length≠0:=by simpa using h0
 obtain⟨cur,hbg,hg,hnc,hcm,hcs,htake⟩:∃cur,0<=g/\w.heap[g]?=some (.cells cur 5 (0,0))/\l.length<=cap/\cap<=maxLen/\cur.size=cap*1/\cur.toList.take (l.length*1)=Lib.byteCells l:=by
  rcases hown.2 with⟨_,hz⟩|⟨g',cap',cur,hv,r⟩
  ·exact absurd hz hl0
  ·cases hv;exact⟨cur,r⟩
 have c1:w.drew.cell? ⟨b,1,none⟩=some (.slice (some ⟨g,0,none⟩) l.length cap):=by have:w.drew.heap[b]?=some (.cells #[p,.slice (some ⟨g,0,none⟩) l.length cap] 96 (0,0)):=hbk;rw[Lib.cell_of_heap this];rfl
 have hSD:(Builtin.unsafeSliceData_ #[80] 172 #[.slice (some ⟨g,0,none⟩) l.length cap]).run Tryz.prog w.drew=.ok (.pointer (some ⟨g,0,none⟩)) w.drew:=
  Lib.run_unsafeSliceData_row _ _ _ _ _ _ (by omega)
 have hUS:(Builtin.unsafeString_ #[172,3] 9 #[.pointer (some ⟨g,0,none⟩),.int .i64 l.length]).run Tryz.prog w.drew=.ok (.string ⟨l.toArray⟩) (w.drew.freeze ⟨g,0,none⟩ l.length):=by refine Lib.run_unsafeString_row w.drew 172 3 9 5 Tryz.underlying172 Tryz.qc.cellsByte g cur.size (by have hg':w.drew.heap[g]?=some (.cells cur 5 (0,0)):=hg;simp[World.shape?,hg']) l h0 (by omega) (by unfold maxLen at hcm;omega) ?_;intro j x hx;have:=hown.cells (g:=g) rfl j (.int .u8 x.toNat) (by simp[Lib.byteCells,hx]);exact this
 have mixed:Tryz.prog.follows .mixedOrders=true:=by kernel_rfl
 go_enter Tryz.func45,Tryz.ntmps45
 go_wp2
 go_region_o
 all_goals(go_wp2;go_ret;exact⟨rfl,rfl⟩)
end Go.Proofs
set_option maxRecDepth 8000
namespace Go.Proofs.Tryz
open Go.Eng Go.RowKit
variable{G:Gh}{f:Nat->Option Value}{x:Option bn}
theorem Bt{G:Gh}{f:Nat->Option Value}:∀{xs:List Int} {o:Nat},DV.rows G f 1 o (xs.map (Ty.i .u8).ds)->∀j u,(xs.map (Value.int .u8))[j]?=some u->f (o+j)=some u
 |[],o,_,j,u,h=>by simp at h
 |x::xs,o,hr,j,u,h=>by
  have hr:DV.rows G f 1 o ([.I .u8 x]::xs.map (Ty.i .u8).ds):=hr;unfold DV.rows at hr;obtain⟨_,hc,hr⟩:=hr;unfold DV.cells at hc;obtain⟨⟨v,hv,hd⟩,_⟩:=hc;unfold DV.aq at hd;cases j with
  |zero=>
   have e:Value.int .u8 x=u:=by simpa using h
   rw[Nat.add_zero,hv,<-e,hd]
  |succ j=>
   have:=Bt hr j u (by simpa using h);rw[show o+(j+1)=o+1+j by omega];exact this
theorem Nr{G:Gh}{f:Nat->Option Value}:∀{xs:List Int} {o:Nat},(∀j u,(xs.map (Value.int .u8))[j]?=some u->f (o+j)=some u)->DV.rows G f 1 o (xs.map (Ty.i .u8).ds)
 |[],o,_=>by simp[DV.rows]
 |x::xs,o,h=>by
  show DV.rows G f 1 o ([.I .u8 x]::xs.map (Ty.i .u8).ds);unfold DV.rows;refine⟨rfl,?_,Nr fun j u hj=>?_⟩
  ·unfold DV.cells;refine⟨⟨.int .u8 x,by have:=h 0 (.int .u8 x) rfl;simpa using this,by simp[DV.aq]⟩,by simp[DV.cells]⟩
  ·have:=h (j+1) u (by simpa using hj);rw[show o+1+j=o+(j+1) by omega];exact this
theorem Ba{h:Hd}(hn:h≠.B 0):gH [x] [] h=none:=by
 cases h with
 |B i=>
  cases i with
  |zero=>exact absurd rfl hn
  |succ i=>rfl
 |O i=>rfl
theorem yI{m:HM}{w:World}(hS:cf G m (gH [x] []) w){h:Hd}(hn:h≠.B 0){l:Eng.Loc}(hl:m h=some l):l=.dead:=by
 cases l with
 |dead=>rfl
 |none=>obtain⟨mt,k,e⟩:=hS.nil _ hl;rw[Ba hn]at e;cases e
 |at_ b sz=>obtain⟨bl,e,_⟩:=hS.fh _ _ _ hl;rw[Ba hn]at e;cases e
 |atx b sz fp=>obtain⟨bl,e,_⟩:=hS.di _ _ _ _ hl;rw[Ba hn]at e;cases e
theorem JQ{m:HM}{lk:bJ}{w:World}(hS:cf G m lk w){b o:Nat}{v:Value}(h:G b o=some v):b<w.heap.size:=by
 have hc:=hS.gh _ _ _ h;rcases Nat.lt_or_ge b w.heap.size with h'|h'
 ·exact h'
 ·have hz:w.heap[b]?=none:=acm h';simp[World.cell?,hz]at hc
def HJ(N:Nat)(p1:(List Int))(p2:Bool)(p3:(List Int)):Option (Int×(Bool×(List Int))):=az (p1≠[]) (az (p3.length+p1.length<=140737488355328) (some ((p1.length:Int),true,p3++p1)))
abbrev SD(N:Nat):br:=⟨41,⟨[(0,.mref (.B 0)),(1,dd (.sl (.i .u8)))],[some (.sb (96,5) false [])],[]⟩,[⟨[(0,dd (.i .i64)),(1,.c .nilIface)],[some (.sb (96,5) false [])],[]⟩],HJ N⟩
theorem Ve(N:Nat):aF Tryz.prog (SD N):=by
 intro _ v r h nbs hn;obtain⟨p,us,xs,un⟩:=v;have h:HJ N p us xs=some r:=h;have hnb:nbs=[]:=by
  cases nbs with
  |nil=>rfl
  |cons _ _=>cases hn
 subst hnb;unfold HJ at h;obtain⟨hp,h⟩:=bB h;obtain⟨hb,h⟩:=bB h;cases h;intro w G m vs hS hO hA;have hA:AV.bb G m [.mref (.B 0),.D (.L (p.map (Ty.i .u8).ds))] vs.toList:=hA;have hS:cf G m (gH [some (.sb (96,5) us (xs.map (Ty.i .u8).ds))] []) w:=hS;show db Tryz.prog 41 vs w fun v w'=>pZ w G m (gH [some (.sb (96,5) true ((xs++p).map (Ty.i .u8).ds))] []) (.cn [.D (.I .i64 p.length),.D (.C .nilIface)]) v w';unfold AV.bb at hA;obtain⟨v0,l1,e0,r0,hA⟩:=hA;unfold AV.bb at hA;obtain⟨v1,l2,e1,r1,hA⟩:=hA;unfold AV.bb at hA;subst hA;subst e1;have hvs:vs=#[v0,v1]:=ac7 e0;subst hvs;unfold AV.aq at r0 r1;obtain⟨_,loc,hloc,hlp⟩:=r0;have hnd:loc≠.dead:=fun e=>by subst e;have:=hS.dead _ hloc;cases this
 obtain⟨b,sz,fp,rfl,rfl⟩:=hlp hnd;obtain⟨bl,hbl,hx⟩:=hS.di _ _ _ _ hloc;cases hbl;obtain⟨hdup,rfl,v,hheap,hsb,hG⟩:=hx;unfold DV.aq at r1;obtain⟨a1,cap,rfl,hcap,_,hne⟩:=r1;have hpl:(p.map (Ty.i .u8).ds)≠[]:=fun e=>hp (abQ.1 e);obtain⟨pb,po,k,rfl,hrows⟩:=hne hpl;have hk:k=1:=by
  cases p with
  |nil=>exact absurd rfl hp
  |cons x p=>
   have hrows:DV.rows G (G pb) k po ([.I .u8 x]::p.map (Ty.i .u8).ds):=hrows;unfold DV.rows at hrows;exact hrows.1.symm
 subst hk;have hpb:pb≠b:=fun e=>by
  subst e;cases p with
  |nil=>exact absurd rfl hp
  |cons x p=>
   have:=Bt hrows 0 (.int .u8 x) rfl;rw[hG]at this;cases this
 have hcell:∀j u,(p.map (Value.int .u8))[j]?=some u->w.cell? ((⟨pb,po,none⟩:Addr).add j)=some u:=fun j u hj=>by
  have h1:=hS.gh _ _ _ (Bt hrows j u hj);have e:(⟨pb,po,none⟩:Addr).add j=⟨pb,po+j,none⟩:=by
   unfold Addr.add;split
   ·rename_i h0;subst h0;rfl
   ·rfl
  rw[e];exact h1
 have hB:Tryz.Hv b (.pointer (if us=true then some ⟨b,0,none⟩else none)) xs.length (xs.map (Value.int .u8)) w v:=by
  have hle:(xs.map (Ty.i .u8).ds).length=xs.length:=κ _;rcases hsb with⟨rfl,hx0,rfl⟩|⟨g,c2,rfl,rfl,q3,q4,q5,vs,q6⟩
  ·have hxs:xs=[]:=abQ.1 hx0;subst hxs;exact⟨hheap,⟨rfl,.inl ⟨rfl,rfl⟩⟩,fun e=>by cases e⟩
  ·unfold bg at q5;obtain⟨vs',T',h1,h2,h3,h4,h5⟩:=q5;rw[q6]at h1;cases h1;rw[hle]at*;refine⟨hheap,⟨by rw[κ,aaN],.inr ⟨g,c2,vs,rfl,aba _,q6,q3,q4,by rw[h2,aaN],?_⟩⟩,fun e=>?_⟩
   ·refine abN fun j=>?_;rw[aaN];by_cases hj:j<xs.length
    ·have hm:(xs.map (Value.int .u8))[j]?=some (.int .u8 xs[j]):=by rw[aac,ν hj];rfl
     have:=Bt h4 j _ hm;rw[aaH hj,hm];simpa using this
    ·rw[aay (by rw[aao];omega),aay (by rw[κ];omega)]
   ·have e:g=b:=Option.some.inj e;subst e;simp at hdup
 have hlp:(p.map (Ty.i .u8).ds).length=p.length:=κ _;rw[hlp];refine .inl ⟨⟨Tryz.f41,Tryz.func41,rfl,rfl⟩,(Tryz.te b us xs.length _ v w hB ⟨pb,po,none⟩ p.length cap (p.map (Value.int .u8)) (κ _) hcell (fun u hu=>by
  obtain⟨n,_,rfl⟩:=List.mem_map.1 hu;rfl) hpb hb).mono ?_⟩
 have hfp:∀c∈fp,some c=v.ownBlock/\∀o,G c o=none:=by
  intro c hc;rcases hsb with⟨_,_,rfl⟩|⟨g,c2,rfl,rfl,q3,q4,q5,_⟩
  ·cases hc
  ·obtain rfl:=aai.1 hc;unfold bg at q5;obtain⟨_,_,_,_,_,_,h5⟩:=q5;exact⟨rfl,h5⟩
 have hvb:∀c,v.ownBlock=some c->c∈fp:=by
  intro c hc;rcases hsb with⟨rfl,_,_⟩|⟨g,c2,rfl,rfl,_⟩
  ·cases hc
  ·cases hc;exact aai.2 rfl
 rintro e w' ⟨rfl,v',hB',os,tape,out,size,frame,hnil,hdr,hat⟩;have hm0:p.length≠0:=by simpa using hp
 obtain⟨hlen,hor⟩:=hB'.own;rcases hor with⟨rfl,hz⟩|⟨g,cap',cur,rfl,_,hg,hnc,hcm,hcs,htk⟩
 ·omega
 have hgb:g≠b:=fun e=>hB'.ne (by rw[e];rfl);have hgG:∀o,G g o=none:=by
  intro o;rcases hat with e|e
  ·exact(hfp g (hvb g e.symm)).2 o
  ·cases hq:G g o with
   |none=>rfl
   |some q=>
    have:=JQ hS hq;have e:g=w.heap.size:=Option.some.inj e;omega
 have hbo:Own m b:=⟨.B 0,_,hloc,aap⟩;refine⟨_,rfl,G,fun h=>if h=.B 0 then some (.atx b 2 [g])else m h,⟨?_,?_,?_,?_,?_,hS.gl,?_⟩,?_,⟨os,⟨tape,hdr⟩,out,size,?_,fun _ _ _ _=>rfl,Gh.le.refl G⟩,?_,?_,?_⟩
 ·intro h b' sz' hm;by_cases hn:h=.B 0
  ·simp only[hn,if_true]at hm;cases hm
  ·simp only[if_neg hn]at hm;have:=yI hS hn hm;cases this
 ·intro h hm;by_cases hn:h=.B 0
  ·simp only[hn,if_true]at hm;cases hm
  ·simp only[if_neg hn]at hm;have:=yI hS hn hm;cases this
 ·intro h h' l l' b' h1 h2 h3 h4;have aux:∀{h:Hd} {l:Eng.Loc},(if h=Hd.B 0 then some (Eng.Loc.atx b 2 [g])else m h)=some l->b'∈l.ga->h=.B 0:=fun{h l} q1 q2=>by
   by_cases hn:h=.B 0
   ·exact hn
   ·rw[if_neg hn]at q1;have:=yI hS hn q1;subst this;cases q2
  rw[aux h1 h3,aux h2 h4]
 ·intro b' o u hG';have hlt:=JQ hS hG';have hbb:b'≠b:=fun e=>by rw[e,hG]at hG';cases hG'
  have hvv:some b'≠v.ownBlock:=fun e=>by rw[(hfp b' (hvb b' e.symm)).2]at hG';cases hG'
  have h1:=hS.gh _ _ _ hG';have e:w'.heap[b']?=w.heap[b']?:=frame b' hlt hbb hvv;have:w'.cell? ⟨b',o,none⟩=w.cell? ⟨b',o,none⟩:=by simp only[World.cell?,e]
  rw[this];exact h1
 ·intro h hm;by_cases hn:h=.B 0
  ·simp only[hn,if_true]at hm;cases hm
  ·exact Ba hn
 ·intro h b' sz' fp' hm;by_cases hn:h=.B 0
  ·simp only[hn,if_true]at hm;cases hm;subst hn;refine⟨_,rfl,?_⟩;refine⟨by simp[hgb.symm],rfl,_,hB'.fh,.inr ⟨g,cap',rfl,?_,?_,hcm,⟨cur,5,hg,?_,?_,?_,hgG⟩,cur,hg⟩,hG⟩
   ·rw[κ,ε]
   ·rw[κ,ε];exact hnc
   ·rw[hcs,aaN]
   ·rw[κ,ε,aaN];exact hnc
   ·refine Nr fun j u hj=>?_;have e:(xs++p).map (Value.int .u8)=cur.toList.take ((xs.length+p.length)*1):=by rw[htk,aaw]
    rw[e]at hj;rw[aan];rw[List.getElem?_take]at hj;split at hj
    ·simpa using hj
    ·cases hj
  ·simp only[if_neg hn]at hm;have:=yI hS hn hm;cases this
 ·unfold AV.aq;refine⟨_,rfl,?_⟩;unfold AV.bb;refine⟨_,_,rfl,by simp[AV.aq,DV.aq],?_⟩;unfold AV.bb;exact⟨_,_,rfl,by simp[AV.aq,DV.aq],by simp[AV.bb]⟩
 ·intro k hk ho;refine frame k hk (fun e=>ho (e▸hbo)) fun e=>ho ?_;exact⟨.B 0,_,hloc,aab _ (hvb k e.symm)⟩
 ·intro i;by_cases hn:i=0
  ·subst hn;exact .inr (.inr ⟨b,2,fp,[g],hloc,by simp⟩)
  ·exact .inl (by simp[hn])
 ·intro h l b' hm hb';by_cases hn:h=.B 0
  ·simp only[hn,if_true]at hm;cases hm;rcases ω.1 hb' with rfl|hb'
   ·exact .inr hbo
   ·obtain rfl:=aai.1 hb';rcases hat with e|e
    ·exact .inr ⟨.B 0,_,hloc,aab _ (hvb _ e.symm)⟩
    ·have e:b'=w.heap.size:=Option.some.inj e;exact .inl (by omega)
  ·simp only[if_neg hn]at hm;exact .inr ⟨h,l,hm,hb'⟩
 ·intro i _;exact hO i
set_option maxRecDepth 8000
def iH(N:Nat)(p1:(List Int))(p2:Bool)(p3:(List Int)):Option (Int×(Bool×(List Int))):=az (p1≠[]) (az (p3.length+p1.length<=140737488355328) (some ((p1.length:Int),true,p3++p1)))
abbrev uQ(N:Nat):br:=⟨41,⟨[(0,.mref (.B 0)),(1,dd (.sl (.i .u8)))],[some (.sb (96,5) false [])],[]⟩,[⟨[(0,dd (.i .i64)),(1,.c .nilIface)],[some (.sb (96,5) false [])],[]⟩],iH N⟩
theorem uV(N:Nat):aF Tryz.prog (uQ N):=Ve N
def eV(N:Nat)(p1:Bool)(p2:(List Int)):Option cc:=az (p2≠[]) (az (∀n∈p2,0<=n/\n<256) (some (bE p2)))
abbrev uK(N:Nat):br:=⟨45,⟨[(0,.mref (.B 0))],[some (.sb (96,5) false [])],[]⟩,[⟨[(0,dd .s)],[none],[]⟩],eV N⟩
theorem Nq:∀{xs:List Int},(∀n∈xs,0<=n/\n<256)->Lib.byteCells (bE xs)=xs.map (Value.int .u8)
 |[],_=>rfl
 |x::xs,h=>by obtain⟨h1,h2⟩:=h x aap;have ih:=Nq (xs:=xs) fun n hn=>h n (aab _ hn);unfold Lib.byteCells bE at*;rw[aaM,aaM,ih,aaM];congr 2;rw[UInt8.toNat_ofNat'];omega
theorem uF(N:Nat):aF Tryz.prog (uK N):=by
 intro _ v r h nbs hn;obtain⟨us,xs,un⟩:=v;have h:eV N us xs=some r:=h;have hnb:nbs=[]:=by
  cases nbs with
  |nil=>rfl
  |cons _ _=>cases hn
 subst hnb;unfold eV at h;obtain⟨hp,h⟩:=bB h;obtain⟨hb,h⟩:=bB h;cases h;intro w G m vs hS hO hA;have hA:AV.bb G m [.mref (.B 0)] vs.toList:=hA;have hS:cf G m (gH [some (.sb (96,5) us (xs.map (Ty.i .u8).ds))] []) w:=hS;show db Tryz.prog 45 vs w fun v w'=>pZ w G m (gH [none] []) (.D (.S (bE xs))) v w';unfold AV.bb at hA;obtain⟨v0,l1,e0,r0,hA⟩:=hA;unfold AV.bb at hA;subst hA;have hvs:vs=#[v0]:=ac7 e0;subst hvs;unfold AV.aq at r0;obtain⟨_,loc,hloc,hlp⟩:=r0;have hnd:loc≠.dead:=fun e=>by subst e;have:=hS.dead _ hloc;cases this
 obtain⟨b,sz,fp,rfl,rfl⟩:=hlp hnd;obtain⟨bl,hbl,hx⟩:=hS.di _ _ _ _ hloc;cases hbl;obtain⟨hdup,rfl,v,hheap,hsb,hG⟩:=hx;rcases hsb with⟨_,hx0,_⟩|⟨g,c2,rfl,rfl,q3,q4,q5,vs,q6⟩
 ·exact absurd (abQ.1 hx0) hp
 unfold bg at q5;obtain⟨vs',T',h1,h2,h3,h4,hgG⟩:=q5;rw[q6]at h1;cases h1;have hlx:(xs.map (Ty.i .u8).ds).length=(bE xs).length:=by unfold bE;rw[κ,κ]
 have hlx':(bE xs).length=xs.length:=by unfold bE;rw[κ]
 rw[hlx]at q3 hheap h3;have hown:w.ownsRow 0 5 1 (.slice (some ⟨g,0,none⟩) (bE xs).length c2) (bE xs).length (Lib.byteCells (bE xs)):=by
  rw[Nq hb];refine⟨by rw[κ,aaN,hlx'],.inr ⟨g,c2,vs,rfl,aba _,q6,q3,q4,by rw[h2,aaN],?_⟩⟩;refine abN fun j=>?_;rw[aaN,hlx'];by_cases hj:j<xs.length
  ·have hm:(xs.map (Value.int .u8))[j]?=some (.int .u8 xs[j]):=by rw[aac,ν hj];rfl
   have:=Bt h4 j _ hm;rw[aaH hj,hm];simpa using this
  ·rw[aay (by rw[aao];omega),aay (by rw[κ];omega)]
 have h0:bE xs≠[]:=fun e=>hp (by have:=congrArg List.length e;rw[hlx']at this;exact List.eq_nil_of_length_eq_zero this);refine .inl ⟨⟨Tryz.f45,Tryz.func45,rfl,rfl⟩,(Tryz.rp b g c2 _ vs (bE xs) w hheap hown h0).mono ?_⟩;rintro e w' ⟨rfl,rfl⟩;have hfz:∀k,k≠g->(w.drew.freeze ⟨g,0,none⟩ (bE xs).length).heap[k]?=w.heap[k]?:=fun k hk=>by
  unfold World.freeze World.drew;split
  ·rfl
  ·show(w.heap.modify g _)[k]?=_;rw[acu,if_neg (Ne.symm hk)]
 have hfs:(w.drew.freeze ⟨g,0,none⟩ (bE xs).length).heap.size=w.heap.size:=by
  unfold World.freeze World.drew;split
  ·rfl
  ·exact Array.size_modify
 have hrest:∀w0:World,(w0.freeze ⟨g,0,none⟩ (bE xs).length).os=w0.os/\(w0.freeze ⟨g,0,none⟩ (bE xs).length).tape=w0.tape/\(w0.freeze ⟨g,0,none⟩ (bE xs).length).drawn=w0.drawn/\(w0.freeze ⟨g,0,none⟩ (bE xs).length).output=w0.output:=fun w0=>by unfold World.freeze;split<;>exact⟨rfl,rfl,rfl,rfl⟩
 obtain⟨r1,r2,r3,r4⟩:=hrest w.drew;have hOg:Own m g:=⟨.B 0,_,hloc,aab _ aap⟩;have hm':∀{h:Hd} {l:Eng.Loc},(if h=Hd.B 0 then some Eng.Loc.dead else m h)=some l->l=.dead:=fun{h l} q=>by
  by_cases hn:h=.B 0
  ·rw[if_pos hn]at q;cases q;rfl
  ·rw[if_neg hn]at q;exact yI hS hn q
 refine⟨_,rfl,G,fun h=>if h=.B 0 then some .dead else m h,⟨?_,?_,?_,?_,?_,hS.gl,?_⟩,?_,⟨r1,⟨r2,?_⟩,r4,?_,?_,fun _ _ _ _=>rfl,Gh.le.refl G⟩,?_,?_,?_⟩
 ·intro h b' sz' hm;cases hm' hm
 ·intro h hm;cases hm' hm
 ·intro h h' l l' b' h1 h2 h3 h4;rw[hm' h1]at h3;cases h3
 ·intro b' o u hG';have hbb:b'≠g:=fun e=>by rw[e,hgG]at hG';cases hG'
  have h1:=hS.gh _ _ _ hG';have e:=hfz b' hbb;have:(w.drew.freeze ⟨g,0,none⟩ (bE xs).length).cell? ⟨b',o,none⟩=w.cell? ⟨b',o,none⟩:=by simp only[World.cell?,e]
  rw[this];exact h1
 ·intro h hm;cases h with
  |B i=>
   cases i with
   |zero=>rfl
   |succ i=>rfl
  |O i=>rfl
 ·intro h b' sz' fp' hm;cases hm' hm
 ·simp[AV.aq,DV.aq]
 ·rw[r3];exact Nat.le_succ _
 ·rw[hfs];exact me _
 ·intro k hk ho;exact hfz k fun e=>ho (e▸hOg)
 ·intro i;by_cases hn:i=0
  ·subst hn;exact .inr (.inl ⟨(by rw[hloc];intro e;cases e),by simp⟩)
  ·exact .inl (by simp[hn])
 ·intro h l b' hm hb';rw[hm' hm]at hb';cases hb'
 ·intro i _;exact hO i
set_option synthInstance.maxSize 100000000
set_option synthInstance.maxHeartbeats 4000000
def iK(N:Nat)(a:TF):Option (cc×Int):=bc (cR N a) fun e=>bf (e !=0) (some (([]:cc),e)) (bc (jX N a.1) fun b=>aw b.length b (bc (iH N b false ([]:TC)) fun f=>bc (pV N a) fun c=>aw c.length c (bc (rP N c) fun d=>aw d.length d (bc (iH N d f.2.1 f.2.2) fun g=>bc (eV N g.2.1 g.2.2) fun h=>some (h,0)))))
abbrev YI(N:Nat):br:=⟨13,⟨[(0,dd tD)],[],[]⟩,[⟨[(0,dd .s),(1,dd tC)],[],[]⟩],iK N⟩
theorem oL(N:Nat):aF Tryz.prog (YI N):=xf N (tc (lV N) (tc (sC N) (tc (uV N) (tc (wS N) (tc (yO N) (tc (uF N) tn)))))) [5000045,5000041] [] 0 Tryz.func13 rfl (by kernel_rfl) fun a=>by kernel_rfl
def Rf(N:Nat)(rec4:cc->Int->Int->Int->Int->TK->TG->TA->TG->TA->Option TO)(m:cc)(n j:Int)(l k:Int)(h:TK)(f:TG)(g:TA)(d:TG)(e:TA):Option TO:=bf (decide (j<n)) (rz (az (0<=j) (az (j<(h.length:Int)) (cr h j.toNat fun o=>bc (sW N o) fun b=>bf (b.2==0) (aw d.length d (az (((d.length+[b.1].length)*48)<=140737488355328) (aw h.length h (aw f.length f (aw g.length g (aw ((d++[b.1]).length) (d++[b.1]) (aw e.length e (some (.inr (m,n,j,l,k,h,f,g,(d++[b.1]),e)))))))))) (bc (uB N o) fun a=>bf (a.2.2.2.2.2.2.2.2==0) (aw e.length e (az (((e.length+[(a.1,(a.2.1,(a.2.2.1,(a.2.2.2.1,(a.2.2.2.2.1,(a.2.2.2.2.2.1,(a.2.2.2.2.2.2.1,a.2.2.2.2.2.2.2.1)))))))].length)*80)<=140737488355328) (aw h.length h (aw f.length f (aw g.length g (aw d.length d (aw ((e++[(a.1,(a.2.1,(a.2.2.1,(a.2.2.2.1,(a.2.2.2.2.1,(a.2.2.2.2.2.1,(a.2.2.2.2.2.2.1,a.2.2.2.2.2.2.2.1)))))))]).length) (e++[(a.1,(a.2.1,(a.2.2.1,(a.2.2.2.1,(a.2.2.2.2.1,(a.2.2.2.2.2.1,(a.2.2.2.2.2.2.1,a.2.2.2.2.2.2.2.1)))))))]) (some (.inr (m,n,j,l,k,h,f,g,d,(e++[(a.1,(a.2.1,(a.2.2.1,(a.2.2.2.1,(a.2.2.2.2.1,(a.2.2.2.2.2.1,(a.2.2.2.2.2.2.1,a.2.2.2.2.2.2.2.1)))))))]))))))))))) (zL (some (0,(([]:TG),(([]:TA),11))))))))) fun c=>ck .i64 (c.2.2.1+1) (aw c.2.2.2.2.2.1.length c.2.2.2.2.2.1 (aw c.2.2.2.2.2.2.1.length c.2.2.2.2.2.2.1 (aw c.2.2.2.2.2.2.2.1.length c.2.2.2.2.2.2.2.1 (aw c.2.2.2.2.2.2.2.2.1.length c.2.2.2.2.2.2.2.2.1 (aw c.2.2.2.2.2.2.2.2.2.length c.2.2.2.2.2.2.2.2.2 (rec4 c.1 c.2.1 (c.2.2.1+1) c.2.2.2.1 c.2.2.2.2.1 c.2.2.2.2.2.1 c.2.2.2.2.2.2.1 c.2.2.2.2.2.2.2.1 c.2.2.2.2.2.2.2.2.1 c.2.2.2.2.2.2.2.2.2))))))) (aw d.length d (aw e.length e (bc (iK N (k,(d,e))) fun p=>bc (bf (p.2!=0) (aw f.length f (aw g.length g (aw d.length d (aw e.length e (some (true,l,k,f,g,d,e)))))) (aw f.length f (aw g.length g (aw d.length d (aw e.length e (some ((!(p.1==m)),l,k,f,g,d,e))))))) fun i=>bf i.1 (some (0,(([]:TG),(([]:TA),11)))) (aw i.2.2.2.2.2.1.length i.2.2.2.2.2.1 (aw i.2.2.2.2.2.2.length i.2.2.2.2.2.2 (some (i.2.2.1,(i.2.2.2.2.2.1,(i.2.2.2.2.2.2,0)))))))))
def UA(N:Nat):Nat->cc->Int->Int->Int->Int->TK->TG->TA->TG->TA->Option TO:=aN [.s,tC,tC,tC,tC,(.sl .s),(.sl tB),(.sl tA),(.sl tB),(.sl tA)] (Rf N)
def uZ(N:Nat)(a:cc):Option TO:=bc (gY N (cJ a)) fun b=>bf (b.2.2!=0) (some (0,(([]:TG),(([]:TA),11)))) (az (0<=b.2.1) (az (b.2.1.toNat<=a.length) (az (a.length<=a.length) (bc (nQ N (cJ (aaq (a.length-b.2.1.toNat) (aaD b.2.1.toNat a)))) fun c=>bf (c.2.1!=0) (some (0,(([]:TG),(([]:TA),11)))) (aw c.2.2.length c.2.2 (UA N N a (c.2.2.length:Int) 0 0 b.1 c.2.2 ([]:TG) ([]:TA) ([]:TG) ([]:TA)))))))
abbrev QI(N:Nat):br:=⟨14,⟨[(0,dd .s)],[],[]⟩,[⟨[(0,.agg [dd tC,dd (.sl tB),dd (.sl tA)]),(1,dd tC)],[],[]⟩],uZ N⟩
theorem QR(N:Nat):aF Tryz.prog (QI N):=xf N (tc (oZ N) (tc (tY N) (tc (SP N) (tc (Y1 N) (tc (oL N) tn))))) [59,72] [⟨25,true,⟨[(2,.ptr (.O 0) 0),(4,.ptr (.O 1) 0),(87,dd .b)],[],[some (.box [dd tC,.slw (.O 2) tB 0,.slw (.O 3) tA 0]),some (.box [dd tC,.slw (.O 4) tB 0,.slw (.O 5) tA 0]),some (.row true tB []),some (.row true tA []),some (.row true tB []),some (.row true tA [])]⟩⟩,⟨16,false,⟨[(0,dd .s),(2,.ptr (.O 0) 0),(4,.ptr (.O 1) 0),(42,.slw (.O 2) .s 0),(43,dd tC),(44,dd tC)],[],[some (.box [dd tC,.slw (.O 3) tB 0,.slw (.O 4) tA 0]),some (.box [dd tC,.slw (.O 5) tB 0,.slw (.O 6) tA 0]),some (.row true .s []),some (.row true tB []),some (.row true tA []),some (.row true tB []),some (.row true tA [])]⟩⟩,⟨13,false,⟨[(0,dd .s),(2,.ptr (.O 0) 0),(4,.ptr (.O 1) 0),(42,.slw (.O 2) .s 0),(43,dd tC),(44,dd tC)],[],[some (.box [dd tC,.slw (.O 3) tB 0,.slw (.O 4) tA 0]),some (.box [dd tC,.slw (.O 5) tB 0,.slw (.O 6) tA 0]),some (.row true .s []),some (.row true tB []),some (.row true tA []),some (.row true tB []),some (.row true tA [])]⟩⟩] 0 Tryz.func14 rfl (by kernel_rfl) fun a=>by kernel_rfl
def sO(N:Nat)(a:TG)(b:Int):Option Bool:=bc (bf (decide ((a.length:Int)<=b)) (some true) (bf (decide ((a.length:Int)>4000)) (some (decide ((a.length:Int)<=4010))) (some false))) fun c=>some c
abbrev Zu(N:Nat):br:=⟨84,⟨[(0,dd (.sl tB)),(1,dd tC)],[],[]⟩,[⟨[(0,dd .b)],[],[]⟩],sO N⟩
theorem aTr(N:Nat):aF Tryz.prog (Zu N):=xf N tn [] [⟨2,true,⟨[(4,dd .b)],[],[]⟩⟩] 0 Tryz.func84 rfl (by kernel_rfl) fun a=>by kernel_rfl
def iD(rec2:Int->TE->Option Bool)(a:Int)(b:TE):Option Bool:=bf (decide (a<(b.length:Int))) (bc (aZ b a fun d=>bf (decide ((d.2.2.1.length:Int)>12)) (some (a,true,b)) (aZ b a fun e=>some (a,decide ((e.2.2.2.length:Int)>12),b))) fun c=>bf c.2.1 (some false) (ck .i64 (c.1+1) (rec2 (c.1+1) c.2.2))) (some true)
def iB:Nat->Int->TE->Option Bool:=aN [tC,(.sl tE)] (iD)
def jM(N:Nat)(a:TE):Option Bool:=bf (decide ((a.length:Int)>20)) (some false) (iB N 0 a)
abbrev aE5(N:Nat):br:=⟨130,⟨[(0,dd (.w (.sl tE)))],[],[]⟩,[⟨[(0,dd .b)],[],[]⟩],jM N⟩
theorem aE9(N:Nat):aF Tryz.prog (aE5 N):=xf N tn [] [⟨10,true,⟨[(1,.ptr (.O 0) 0),(3,dd tC),(34,dd .b)],[],[some (.box [dd (.sl tE)])]⟩⟩,⟨6,false,⟨[(1,.ptr (.O 0) 0),(3,dd tC)],[],[some (.box [dd (.sl tE)])]⟩⟩] 0 Tryz.func130 rfl (by kernel_rfl) fun a=>by kernel_rfl
def oX(N:Nat)(rec4:TA->Int->Option Bool)(b:TA)(a:Int):Option Bool:=bf (decide (a<(b.length:Int))) (aZ b a fun c=>bc (jM N c.2.2.2.2.2.2.2) fun d=>bf (!d) (some false) (ck .i64 (a+1) (rec4 b (a+1)))) (some true)
def lL(N:Nat):Nat->TA->Int->Option Bool:=aN [(.sl tA),tC] (oX N)
def sR(N:Nat)(a:TA)(c:Int):Option Bool:=bc (bf (decide ((a.length:Int)>c)) (bf (decide ((a.length:Int)<=400)) (some (a,true)) (some (a,decide ((a.length:Int)>410)))) (some (a,decide ((a.length:Int)>410)))) fun b=>bf b.2 (some false) (lL N N b.1 0)
abbrev aUd(N:Nat):br:=⟨85,⟨[(0,dd (.sl tA)),(1,dd tC)],[],[]⟩,[⟨[(0,dd .b)],[],[]⟩],sR N⟩
theorem R3(N:Nat):aF Tryz.prog (aUd N):=xf N (tc (aE9 N) tn) [] [⟨6,false,⟨[(0,dd (.sl tA)),(5,dd tC)],[],[]⟩⟩,⟨2,true,⟨[(0,dd (.sl tA)),(20,dd .b)],[],[]⟩⟩] 0 Tryz.func85 rfl (by kernel_rfl) fun a=>by kernel_rfl
def sQ(N:Nat)(a:TF)(b:Int):Option Bool:=bc (sO N a.2.1 b) fun c=>bc (sR N a.2.2 b) fun d=>bc (bf c (some d) (some false)) fun e=>some e
abbrev Zb(N:Nat):br:=⟨35,⟨[(0,dd tD),(1,dd tC)],[],[]⟩,[⟨[(0,dd .b)],[],[]⟩],sQ N⟩
theorem Sx(N:Nat):aF Tryz.prog (Zb N):=xf N (tc (aTr N) (tc (R3 N) tn)) [] [⟨3,true,⟨[(4,dd .b)],[],[]⟩⟩] 0 Tryz.func35 rfl (by kernel_rfl) fun a=>by kernel_rfl
def oY(N:Nat)(a:TG)(b:TA):Option Bool:=bc (sQ N (0,(a,b)) 30) fun c=>some c
abbrev T7(N:Nat):br:=⟨8,⟨[(0,dd (.sl tB)),(1,dd (.sl tA))],[],[]⟩,[⟨[(0,dd .b)],[],[]⟩],oY N⟩
theorem Ze(N:Nat):aF Tryz.prog (T7 N):=xf N (tc (Sx N) tn) [] [] 0 Tryz.func8 rfl (by kernel_rfl) fun a=>by kernel_rfl
def wZ(N:Nat):Option (TG×TA):=some ([(3,(1,(100,(120,(50,0))))),(3,(2,(110,(114,(60,2))))),(3,(5,(130,(140,(50,0)))))],[(2,(3,(4,(2,(0,(200,(1,([]:TE))))))))])
abbrev Ue(N:Nat):br:=⟨36,⟨[],[],[]⟩,[⟨[(0,.slw (.O 0) tB 0),(1,.slw (.O 1) tA 0)],[],[some (.row true tB []),some (.row true tA [])]⟩],wZ N⟩
theorem Sd(N:Nat):aF Tryz.prog (Ue N):=xf N tn [] [] 0 Tryz.func36 rfl (by kernel_rfl) fun a=>by kernel_rfl
def nA(rec3:TG->TG->Int->Option Bool)(d e:TG)(c:Int):Option Bool:=bf (decide (c<(d.length:Int))) (aZ d c fun a=>aZ e c fun b=>bf (!(lZ [1,1,1,1,1] (a.1==b.1) (lZ [1,1,1,1] (a.2.1==b.2.1) (lZ [1,1,1] (a.2.2.1==b.2.2.1) (lZ [1,1] (a.2.2.2.1==b.2.2.2.1) (lZ [1] (a.2.2.2.2.1==b.2.2.2.2.1) (lZ ([]:(List Nat)) (a.2.2.2.2.2==b.2.2.2.2.2) true))))))) (some false) (ck .i64 (c+1) (rec3 d e (c+1)))) (some true)
def nI:Nat->TG->TG->Int->Option Bool:=aN [(.sl tB),(.sl tB),tC] (nA)
def iR(N:Nat)(a b:TG):Option Bool:=bf ((a.length:Int)!=(b.length:Int)) (some false) (nI N a b 0)
abbrev Xv(N:Nat):br:=⟨26,⟨[(0,dd (.sl tB)),(1,dd (.sl tB))],[],[]⟩,[⟨[(0,dd .b)],[],[]⟩],iR N⟩
theorem wH(N:Nat):aF Tryz.prog (Xv N):=xf N tn [] [⟨6,false,⟨[(0,dd (.sl tB)),(1,dd (.sl tB)),(5,dd tC)],[],[]⟩⟩] 0 Tryz.func26 rfl (by kernel_rfl) fun a=>by kernel_rfl
def hZ(rec3:Int->TE->TE->Option Bool)(a:Int)(d e:TE):Option Bool:=bf (decide (a<(d.length:Int))) (aZ d a fun b=>aZ e a fun c=>bf (!(oA [(Sh.s 0),(Sh.s 2),(Sh.s 2)] (b.1==c.1) (oA [(Sh.s 2),(Sh.s 2)] (b.2.1==c.2.1) (oA [(Sh.s 2)] (b.2.2.1==c.2.2.1) (oA ([]:(List Sh)) (b.2.2.2==c.2.2.2) true))))) (some false) (ck .i64 (a+1) (rec3 (a+1) d e))) (some true)
def iC:Nat->Int->TE->TE->Option Bool:=aN [tC,(.sl tE),(.sl tE)] (hZ)
def jN(N:Nat)(a b:TE):Option Bool:=bf ((a.length:Int)!=(b.length:Int)) (some false) (iC N 0 a b)
abbrev Q9(N:Nat):br:=⟨127,⟨[(0,dd (.w (.sl tE))),(1,dd (.w (.sl tE)))],[],[]⟩,[⟨[(0,dd .b)],[],[]⟩],jN N⟩
theorem VK(N:Nat):aF Tryz.prog (Q9 N):=xf N tn [] [⟨6,false,⟨[(2,.ptr (.O 0) 0),(3,.ptr (.O 1) 0),(5,dd tC)],[],[some (.box [dd (.sl tE)]),some (.box [dd (.sl tE)])]⟩⟩] 0 Tryz.func127 rfl (by kernel_rfl) fun a=>by kernel_rfl
def nT(N:Nat)(a b:TH):Option Bool:=bc (jN N a.2.2.2.2.2.2.2 b.2.2.2.2.2.2.2) fun c=>bc (bf c (bf (a.1==b.1) (bf (a.2.1==b.2.1) (bf (a.2.2.1==b.2.2.1) (bf (a.2.2.2.1==b.2.2.2.1) (bf (a.2.2.2.2.1==b.2.2.2.2.1) (bf (a.2.2.2.2.2.1==b.2.2.2.2.2.1) (some (a.2.2.2.2.2.2.1==b.2.2.2.2.2.2.1)) (some false)) (some false)) (some false)) (some false)) (some false)) (some false)) (some false)) fun d=>some d
abbrev aR5(N:Nat):br:=⟨70,⟨[(0,dd tA),(1,dd tA)],[],[]⟩,[⟨[(0,dd .b)],[],[]⟩],nT N⟩
theorem Wm(N:Nat):aF Tryz.prog (aR5 N):=xf N (tc (VK N) tn) [] [⟨2,true,⟨[(4,dd .b)],[],[]⟩⟩] 0 Tryz.func70 rfl (by kernel_rfl) fun a=>by kernel_rfl
def iM(N:Nat)(rec3:TA->TA->Int->Option Bool)(d e:TA)(c:Int):Option Bool:=bf (decide (c<(d.length:Int))) (aZ d c fun a=>aZ e c fun b=>bc (nT N a b) fun f=>bf (!f) (some false) (ck .i64 (c+1) (rec3 d e (c+1)))) (some true)
def iN(N:Nat):Nat->TA->TA->Int->Option Bool:=aN [(.sl tA),(.sl tA),tC] (iM N)
def eT(N:Nat)(a b:TA):Option Bool:=bf ((a.length:Int)!=(b.length:Int)) (some false) (iN N N a b 0)
abbrev RE(N:Nat):br:=⟨27,⟨[(0,dd (.sl tA)),(1,dd (.sl tA))],[],[]⟩,[⟨[(0,dd .b)],[],[]⟩],eT N⟩
theorem oJ(N:Nat):aF Tryz.prog (RE N):=xf N (tc (Wm N) tn) [] [⟨6,false,⟨[(0,dd (.sl tA)),(1,dd (.sl tA)),(5,dd tC)],[],[]⟩⟩] 0 Tryz.func27 rfl (by kernel_rfl) fun a=>by kernel_rfl
def eZ(N:Nat)(a b:TF):Option Bool:=bc (iR N a.2.1 b.2.1) fun c=>bc (eT N a.2.2 b.2.2) fun d=>bc (bf c (bf d (some (a.1==b.1)) (some false)) (some false)) fun e=>some e
abbrev Rv(N:Nat):br:=⟨21,⟨[(0,dd tD),(1,dd tD)],[],[]⟩,[⟨[(0,dd .b)],[],[]⟩],eZ N⟩
theorem M5(N:Nat):aF Tryz.prog (Rv N):=xf N (tc (wH N) (tc (oJ N) tn)) [] [⟨3,true,⟨[(4,dd .b)],[],[]⟩⟩] 0 Tryz.func21 rfl (by kernel_rfl) fun a=>by kernel_rfl
def kL(N:Nat)(b:TG)(c:TA)(d:Int):Option TO:=bc (gM N b c) fun e=>bf (e !=0) (some (0,(([]:TG),(([]:TA),e)))) (bc (lO N d) fun f=>bf (!f) (some (0,(([]:TG),(([]:TA),3)))) (bc (nG N b c d) fun a=>aw a.2.1.length a.2.1 (aw a.2.2.length a.2.2 (some (a.1,(a.2.1,(a.2.2,0)))))))
abbrev SH(N:Nat):br:=⟨11,⟨[(0,dd (.sl tB)),(1,dd (.sl tA)),(2,dd tC)],[],[]⟩,[⟨[(0,.agg [dd tC,dd (.sl tB),dd (.sl tA)]),(1,dd tC)],[],[]⟩],kL N⟩
theorem LC(N:Nat):aF Tryz.prog (SH N):=xf N (tc (pM N) (tc (PX N) (tc (PJ N) tn))) [] [] 0 Tryz.func11 rfl (by kernel_rfl) fun a=>by kernel_rfl
def Py(N:Nat):Option TI:=some ((bw.from [1779033703,3144134277,1013904242,2773480762,1359893119,2600822924,528734635,1541459225] 8),((bw.zero 64),0))
abbrev Tg(N:Nat):br:=⟨80,⟨[],[],[]⟩,[⟨[(0,dd tG)],[],[]⟩],Py N⟩
theorem U0(N:Nat):aF Tryz.prog (Tg N):=xf N tn [] [] 0 Tryz.func80 rfl (by kernel_rfl) fun a=>by kernel_rfl
def cI(N:Nat)(b a:Int):Option Int:=az (0<=(bits .and .u64 (δ .u64 a) 31)) (az ((bits .and .u64 (δ .u64 a) 31)<=(((abP .u32):Nat):Int)) (az (0<=(δ .u64 (32-(bits .and .u64 (δ .u64 a) 31)))) (az ((δ .u64 (32-(bits .and .u64 (δ .u64 a) 31)))<=(((abP .u32):Nat):Int)) (some (bits .or .u32 (δ .u32 (b*(2^(bits .and .u64 (δ .u64 a) 31).toNat))) (b/(2^(δ .u64 (32-(bits .and .u64 (δ .u64 a) 31))).toNat)))))))
abbrev X6(N:Nat):br:=⟨173,⟨[(0,dd tI),(1,dd tC)],[],[]⟩,[⟨[(0,dd tI)],[],[]⟩],cI N⟩
theorem qA(N:Nat):aF Tryz.prog (X6 N):=xf N tn [] [] 0 Tryz.func173 rfl (by kernel_rfl) fun a=>by kernel_rfl
def YZ(i:TC->Int->Int->TC->Int->Int->(bw 64)->(bw 64)->Option TX)(d:TC)(a e:Int)(f:TC)(g b:Int)(h c:(bw 64)):Option TX:=bf (decide (b<g)) (aZ f b fun j=>az (0<=a) (az (a<((64:Nat):Int)) (cr c.l a.toNat fun k=>az (0<=a) (az (a<((64:Nat):Int)) (az (a.toNat<64) (ck .i64 (b+1) (i d a e f g (b+1) h (bw.set c a.toNat (bits .or .u32 (δ .u32 (k*(2^8))) (δ .u32 j)))))))))) (some (d,e,h,c))
def Vt:Nat->TC->Int->Int->TC->Int->Int->(bw 64)->(bw 64)->Option TX:=aN [tH,tC,tC,tH,tC,tC,tN,tN] (YZ)
def aEx(N:Nat)(rec2:TC->Int->(bw 64)->(bw 64)->Option (bw 64))(c:TC)(a:Int)(g b:(bw 64)):Option (bw 64):=bf (decide (a<64)) (bc (bf (decide (a<16)) (ck .i64 (4*a) (ck .i64 (4*a) (ck .i64 ((4*a)+4) (az (0<=((4*a)+4)) (az (0<=(4*a)) (az ((4*a).toNat<=((4*a)+4).toNat) (az (((4*a)+4).toNat<=c.length) (Vt N c a a (aaq (((4*a)+4).toNat-(4*a).toNat) (aaD (4*a).toNat c)) (((aaq (((4*a)+4).toNat-(4*a).toNat) (aaD (4*a).toNat c)).length:Nat):Int) 0 g b)))))))) (ck .i64 (a-15) (az (0<=(a-15)) (az ((a-15)<((64:Nat):Int)) (cr b.l ((a-15).toNat) fun e=>ck .i64 (a-2) (az (0<=(a-2)) (az ((a-2)<((64:Nat):Int)) (cr b.l ((a-2).toNat) fun f=>bc (cI N e (-7)) fun h=>bc (cI N e (-18)) fun i=>bc (cI N f (-17)) fun j=>bc (cI N f (-19)) fun k=>ck .i64 (a-16) (az (0<=(a-16)) (az ((a-16)<((64:Nat):Int)) (cr b.l ((a-16).toNat) fun m=>ck .i64 (a-7) (az (0<=(a-7)) (az ((a-7)<((64:Nat):Int)) (cr b.l ((a-7).toNat) fun n=>az (0<=a) (az (a<((64:Nat):Int)) (az (a.toNat<64) (some (c,a,g,(bw.set b a.toNat (δ .u32 ((δ .u32 ((δ .u32 (m+(bits .xor .u32 (bits .xor .u32 h i) (e/(2^3)))))+n))+(bits .xor .u32 (bits .xor .u32 j k) (f/(2^10)))))))))))))))))))))))) fun d=>ck .i64 (d.2.1+1) (rec2 d.1 (d.2.1+1) d.2.2.1 d.2.2.2)) (some b)
def aC2(N:Nat):Nat->TC->Int->(bw 64)->(bw 64)->Option (bw 64):=aN [tH,tC,tN,tN] (aEx N)
def wY(N:Nat)(a:TC):Option (bw 64):=aC2 N N a 0 (bw.zero 64) (bw.zero 64)
abbrev aIz(N:Nat):br:=⟨147,⟨[(0,dd tH)],[],[]⟩,[⟨[(0,dd tN)],[],[]⟩],wY N⟩
theorem Ul(N:Nat):aF Tryz.prog (aIz N):=xf N (tc (qA N) tn) [] [⟨7,true,⟨[(0,dd tH),(2,.apt (.O 0) 0),(3,.apt (.O 1) 0),(11,dd tC)],[],[some (.arr true 64 .u32 (bw.zero 64)),some (.arr true 64 .u32 (bw.zero 64))]⟩⟩,⟨13,false,⟨[(0,dd tH),(2,.apt (.O 0) 0),(3,.apt (.O 1) 0),(4,dd tC),(11,dd tC),(22,dd tH),(23,dd tC),(24,dd tC)],[],[some (.arr true 64 .u32 (bw.zero 64)),some (.arr true 64 .u32 (bw.zero 64))]⟩⟩,⟨4,false,⟨[(0,dd tH),(2,.apt (.O 0) 0),(3,.apt (.O 1) 0),(11,dd tC)],[],[some (.arr true 64 .u32 (bw.zero 64)),some (.arr true 64 .u32 (bw.zero 64))]⟩⟩] 0 Tryz.func147 rfl (by kernel_rfl) fun a=>by kernel_rfl
def F4(N:Nat)(a b:Int)(c d:Int):Option Int:=ck .i64 (-b) (bc (cI N a (-b)) fun e=>ck .i64 (-c) (bc (cI N a (-c)) fun f=>ck .i64 (-d) (bc (cI N a (-d)) fun g=>some (bits .xor .u32 (bits .xor .u32 e f) g))))
abbrev Sk(N:Nat):br:=⟨148,⟨[(0,dd tI),(1,dd tC),(2,dd tC),(3,dd tC)],[],[]⟩,[⟨[(0,dd tI)],[],[]⟩],F4 N⟩
theorem RN(N:Nat):aF Tryz.prog (Sk N):=xf N (tc (qA N) tn) [] [] 0 Tryz.func148 rfl (by kernel_rfl) fun a=>by kernel_rfl
def Yd(g:Int->(bw 8)->(bw 8)->(bw 4)->(bw 4)->Option (bw 8))(a:Int)(b h:(bw 8))(c d:(bw 4)):Option (bw 8):=bf (decide (a<4)) (az (0<=a) (az (a<((8:Nat):Int)) (cr b.l a.toNat fun e=>az (0<=a) (az (a<((4:Nat):Int)) (cr c.l a.toNat fun f=>az (0<=a) (az (a<((8:Nat):Int)) (az (a.toNat<8) (ck .i64 (a+4) (az (0<=(a+4)) (az ((a+4)<((8:Nat):Int)) (cr ((bw.set b a.toNat (δ .u32 (e+f))).l) ((a+4).toNat) fun i=>az (0<=a) (az (a<((4:Nat):Int)) (cr d.l a.toNat fun j=>az (0<=(a+4)) (az ((a+4)<((8:Nat):Int)) (az ((a+4).toNat<8) (ck .i64 (a+1) (g (a+1) (bw.set (bw.set b a.toNat (δ .u32 (e+f))) (a+4).toNat (δ .u32 (i+j))) h c d))))))))))))))))) (some b)
def RX:Nat->Int->(bw 8)->(bw 8)->(bw 4)->(bw 4)->Option (bw 8):=aN [tC,(.ar 8 .u32),(.ar 8 .u32),(.ar 4 .u32),(.ar 4 .u32)] (Yd)
def aFq(N:Nat)(rec4:(bw 64)->Int->(bw 8)->(bw 8)->(bw 64)->(bw 4)->(bw 4)->Option (bw 8))(d:(bw 64))(c:Int)(e f:(bw 8))(g:(bw 64))(a b:(bw 4)):Option (bw 8):=bf (decide (c<64)) (aZ d.l c fun h=>cr b.l (3) fun i=>cr b.l (0) fun q=>bc (F4 N q 6 11 25) fun j=>cr b.l (0) fun k=>cr b.l (1) fun m=>cr b.l (0) fun n=>cr b.l (2) fun o=>az (0<=c) (az (c<((64:Nat):Int)) (cr g.l c.toNat fun p=>cr a.l (0) fun r=>bc (F4 N r 2 13 22) fun s=>cr a.l (0) fun t=>cr a.l (1) fun u=>cr a.l (0) fun v=>cr a.l (2) fun w=>cr a.l (1) fun x=>cr a.l (2) fun y=>cr a.l (3) fun z=>cr b.l (0) fun aa=>cr b.l (1) fun ab=>cr b.l (2) fun ac=>cr a.l (0) fun ad=>cr a.l (1) fun ae=>cr a.l (2) fun af=>ck .i64 (c+1) (rec4 d (c+1) e f g (bw.from [(δ .u32 ((δ .u32 ((δ .u32 ((δ .u32 ((δ .u32 (i+j))+(bits .xor .u32 (bits .and .u32 k m) (bits .and .u32 (bits .xor .u32 (ite ((IntKind.signed IntKind.u32)=true) (-1) (IntKind.max IntKind.u32)) n) o))))+h))+p))+(δ .u32 (s+(bits .xor .u32 (bits .xor .u32 (bits .and .u32 t u) (bits .and .u32 v w)) (bits .and .u32 x y)))))),ad,ae,af] 4) (bw.from [(δ .u32 (z+(δ .u32 ((δ .u32 ((δ .u32 ((δ .u32 (i+j))+(bits .xor .u32 (bits .and .u32 k m) (bits .and .u32 (bits .xor .u32 (ite ((IntKind.signed IntKind.u32)=true) (-1) (IntKind.max IntKind.u32)) n) o))))+h))+p)))),aa,ab,ac] 4))))) (RX N 0 e f a b)
def Wx(N:Nat):Nat->(bw 64)->Int->(bw 8)->(bw 8)->(bw 64)->(bw 4)->(bw 4)->Option (bw 8):=aN [tN,tC,(.ar 8 .u32),(.ar 8 .u32),tN,(.ar 4 .u32),(.ar 4 .u32)] (aFq N)
def xA(N:Nat)(a:(bw 8))(b:TC):Option (bw 8):=bc (wY N b) fun c=>az (a=a) (az (a=a) (az (a=a) (Wx N N (bw.mk za (XS.ev._proof_1 za)) 0 a (bw.zero 8) c (bw.part a 0 4) (bw.part a 4 4))))
abbrev Xh(N:Nat):br:=⟨129,⟨[(0,dd (.ar 8 .u32)),(1,dd tH)],[],[]⟩,[⟨[(0,dd (.ar 8 .u32))],[],[]⟩],xA N⟩
theorem YH(N:Nat):aF Tryz.prog (Xh N):=xf N (tc (Ul N) (tc (RN N) tn)) [17,20] [⟨15,false,⟨[(2,.apt (.O 0) 0),(4,.apt (.O 1) 0),(6,.apt (.O 2) 0),(7,.apt (.O 3) 0),(94,dd tC)],[],[some (.arr true 8 .u32 (bw.zero 8)),some (.arr true 8 .u32 (bw.zero 8)),some (.arr true 4 .u32 (bw.zero 4)),some (.arr true 4 .u32 (bw.zero 4))]⟩⟩,⟨5,false,⟨[(2,.apt (.O 0) 0),(4,.apt (.O 1) 0),(5,.apt (.O 2) 0),(6,.apt (.O 3) 0),(7,.apt (.O 4) 0),(21,dd tN),(22,dd tC)],[],[some (.arr true 8 .u32 (bw.zero 8)),some (.arr true 8 .u32 (bw.zero 8)),some (.arr true 64 .u32 (bw.zero 64)),some (.arr true 4 .u32 (bw.zero 4)),some (.arr true 4 .u32 (bw.zero 4))]⟩⟩] 0 Tryz.func129 rfl (by kernel_rfl) fun a=>by kernel_rfl
def Uw(N:Nat)(rec3:cc->TI->TI->Option TI)(b:cc)(a c:TI):Option TI:=bf (!(b==([]:cc))) (az (0<=(δ .i64 (aa4 a.2.2 64))) (az ((δ .i64 (aa4 a.2.2 64)).toNat<=64) (az (((δ .i64 (aa4 a.2.2 64)).toNat+(64-(δ .i64 (aa4 a.2.2 64)).toNat))<=(j6.n (j6.mk 64 IntKind.u8 a.2.1))) (az (0<=(((Min.min (cJ b).length (64-(δ .i64 (aa4 a.2.2 64)).toNat)):Nat):Int)) (az ((((Min.min (cJ b).length (64-(δ .i64 (aa4 a.2.2 64)).toNat)):Nat):Int).toNat<=b.length) (az (b.length<=b.length) (ck .i64 ((δ .i64 (aa4 a.2.2 64))+(((Min.min (cJ b).length (64-(δ .i64 (aa4 a.2.2 64)).toNat)):Nat):Int)) (bf (((δ .i64 (aa4 a.2.2 64))+(((Min.min (cJ b).length (64-(δ .i64 (aa4 a.2.2 64)).toNat)):Nat):Int))==64) (az ((0+(64-0))<=(j6.n (j6.mk 64 IntKind.u8 (bw.put (j6.x (j6.mk 64 IntKind.u8 a.2.1)) (δ .i64 (aa4 a.2.2 64)).toNat (aaq (Min.min (cJ b).length (64-(δ .i64 (aa4 a.2.2 64)).toNat)) (cJ b)))))) (bc (xA N a.1 (qb (j6.x (j6.mk 64 IntKind.u8 (bw.put (j6.x (j6.mk 64 IntKind.u8 a.2.1)) (δ .i64 (aa4 a.2.2 64)).toNat (aaq (Min.min (cJ b).length (64-(δ .i64 (aa4 a.2.2 64)).toNat)) (cJ b))))).l 0 (64-0) (j6.n (j6.mk 64 IntKind.u8 (bw.put (j6.x (j6.mk 64 IntKind.u8 a.2.1)) (δ .i64 (aa4 a.2.2 64)).toNat (aaq (Min.min (cJ b).length (64-(δ .i64 (aa4 a.2.2 64)).toNat)) (cJ b))))))) fun d=>rec3 (aaq (b.length-(((Min.min (cJ b).length (64-(δ .i64 (aa4 a.2.2 64)).toNat)):Nat):Int).toNat) (aaD (((Min.min (cJ b).length (64-(δ .i64 (aa4 a.2.2 64)).toNat)):Nat):Int).toNat b)) (d,((bw.put (j6.x (j6.mk 64 IntKind.u8 a.2.1)) (δ .i64 (aa4 a.2.2 64)).toNat (aaq (Min.min (cJ b).length (64-(δ .i64 (aa4 a.2.2 64)).toNat)) (cJ b))),(δ .u64 (a.2.2+(δ .u64 (((Min.min (cJ b).length (64-(δ .i64 (aa4 a.2.2 64)).toNat)):Nat):Int)))))) c)) (rec3 (aaq (b.length-(((Min.min (cJ b).length (64-(δ .i64 (aa4 a.2.2 64)).toNat)):Nat):Int).toNat) (aaD (((Min.min (cJ b).length (64-(δ .i64 (aa4 a.2.2 64)).toNat)):Nat):Int).toNat b)) (a.1,((bw.put (j6.x (j6.mk 64 IntKind.u8 a.2.1)) (δ .i64 (aa4 a.2.2 64)).toNat (aaq (Min.min (cJ b).length (64-(δ .i64 (aa4 a.2.2 64)).toNat)) (cJ b))),(δ .u64 (a.2.2+(δ .u64 (((Min.min (cJ b).length (64-(δ .i64 (aa4 a.2.2 64)).toNat)):Nat):Int)))))) c))))))))) (some a)
def WG(N:Nat):Nat->cc->TI->TI->Option TI:=aN [.s,tG,tG] (Uw N)
def jR(N:Nat)(a:TI)(b:cc):Option TI:=WG N N b a ((bw.zero 8),((bw.zero 64),0))
abbrev Xn(N:Nat):br:=⟨81,⟨[(0,dd tG),(1,dd .s)],[],[]⟩,[⟨[(0,dd tG)],[],[]⟩],jR N⟩
theorem tS(N:Nat):aF Tryz.prog (Xn N):=xf N (tc (YH N) tn) [] [⟨2,false,⟨[(1,dd .s),(2,.rpt (.O 0) 0),(4,.rpt (.O 1) 0)],[],[some (.rb true tG (Ty.z tG)),some (.rb true tG (Ty.z tG))]⟩⟩] 0 Tryz.func81 rfl (by kernel_rfl) fun a=>by kernel_rfl
def aBd(d:Int->TI->(bw 32)->(bw 32)->Option (bw 32))(a:Int)(b:TI)(e c:(bw 32)):Option (bw 32):=bf (decide (a<32)) (ck .i64 (ac2 a 4) (az (0<=(ac2 a 4)) (az ((ac2 a 4)<((8:Nat):Int)) (cr ((j6.x (j6.mk 8 IntKind.u32 b.1)).l) ((ac2 a 4).toNat) fun f=>ck .i64 (8*(aa4 a 4)) (ck .i64 (24-(8*(aa4 a 4))) (az (0<=(24-(8*(aa4 a 4)))) (az ((24-(8*(aa4 a 4)))<=(((abP .u32):Nat):Int)) (az (0<=a) (az (a<((32:Nat):Int)) (az (a.toNat<32) (ck .i64 (a+1) (d (a+1) b e (bw.set c a.toNat (δ .u8 (f/(2^(24-(8*(aa4 a 4))).toNat)))))))))))))))) (some c)
def UW:Nat->Int->TI->(bw 32)->(bw 32)->Option (bw 32):=aN [tC,tG,(.ar 32 .u8),(.ar 32 .u8)] (aBd)
def aA3(N:Nat)(g:Int->Int->TI->(bw 32)->TC->Option (bw 32))(c a:Int)(d:TI)(f:(bw 32))(b:TC):Option (bw 32):=bf (decide (a<8)) (ck .i64 (8*a) (ck .i64 (56-(8*a)) (az (0<=(56-(8*a))) (az ((56-(8*a))<=(((abP .u64):Nat):Int)) (aw b.length b (az (((b.length+[(δ .u8 (c/(2^(56-(8*a)).toNat)))].length)*1)<=140737488355328) (ck .i64 (a+1) (aw ((b++[(δ .u8 (c/(2^(56-(8*a)).toNat)))]).length) (b++[(δ .u8 (c/(2^(56-(8*a)).toNat)))]) (g c (a+1) d f (b++[(δ .u8 (c/(2^(56-(8*a)).toNat)))])))))))))) (aw b.length b (bc (jR N d (bE b)) fun e=>UW N 0 e f (bw.zero 32)))
def QO(N:Nat):Nat->Int->Int->TI->(bw 32)->TC->Option (bw 32):=aN [tK,tC,tG,(.ar 32 .u8),tH] (aA3 N)
def WJ(N:Nat)(rec2:Int->TI->(bw 32)->TC->Option (bw 32))(c:Int)(b:TI)(d:(bw 32))(a:TC):Option (bw 32):=ck .i64 ((δ .i64 b.2.2)+(a.length:Int)) (bf ((aa4 ((δ .i64 b.2.2)+(a.length:Int)) 64)!=56) (aw a.length a (az (((a.length+[0].length)*1)<=140737488355328) (aw ((a++[0]).length) (a++[0]) (rec2 c b d (a++[0]))))) (aw a.length a (QO N N c 0 b d a)))
def aBe(N:Nat):Nat->Int->TI->(bw 32)->TC->Option (bw 32):=aN [tK,tG,(.ar 32 .u8),tH] (WJ N)
def tT(N:Nat)(a:TI):Option (bw 32):=aBe N N (δ .u64 (8*a.2.2)) a (bw.zero 32) [128]
abbrev UU(N:Nat):br:=⟨83,⟨[(0,dd tG)],[],[]⟩,[⟨[(0,dd (.ar 32 .u8))],[],[]⟩],tT N⟩
theorem Su(N:Nat):aF Tryz.prog (UU N):=xf N (tc (tS N) tn) [22,34] [⟨18,false,⟨[(1,.rpt (.O 0) 0),(2,.apt (.O 1) 0),(6,.apt (.O 2) 0),(40,dd tC)],[],[some (.rb true tG (Ty.z tG)),some (.arr true 32 .u8 (bw.zero 32)),some (.arr true 32 .u8 (bw.zero 32))]⟩⟩,⟨9,false,⟨[(1,.rpt (.O 0) 0),(2,.apt (.O 1) 0),(3,dd tK),(4,.slw (.O 2) (.i .u8) 0),(23,dd tC)],[],[some (.rb true tG (Ty.z tG)),some (.arr true 32 .u8 (bw.zero 32)),some (.row true (.i .u8) [])]⟩⟩,⟨4,false,⟨[(1,.rpt (.O 0) 0),(2,.apt (.O 1) 0),(3,dd tK),(4,.slw (.O 2) (.i .u8) 0)],[],[some (.rb true tG (Ty.z tG)),some (.arr true 32 .u8 (bw.zero 32)),some (.row true (.i .u8) [])]⟩⟩] 0 Tryz.func83 rfl (by kernel_rfl) fun a=>by kernel_rfl
def Xx(N:Nat)(g:TK->Int->Int->(bw 16)->TI->Option (bw 16))(e:TK)(f b:Int)(h:(bw 16))(a:TI):Option (bw 16):=bf (decide (b<f)) (aZ e b fun i=>bc (wE N i) fun c=>aw c.length c (bc (jR N a (bE c)) fun d=>ck .i64 (b+1) (g e f (b+1) h d))) (bc (tT N a) fun j=>some (bw.part j 0 16))
def Y7(N:Nat):Nat->TK->Int->Int->(bw 16)->TI->Option (bw 16):=aN [(.sl .s),tC,tC,(.ar 16 .u8),tG] (Xx N)
def HD(N:Nat)(d:Int)(c:TK):Option (bw 16):=bc (Py N) fun a=>bc (jR N a (bE [(δ .u8 d)])) fun b=>Y7 N N c (c.length:Int) 0 (bw.zero 16) b
abbrev bB9(N:Nat):br:=⟨34,⟨[(0,dd tC),(1,dd (.sl .s))],[],[]⟩,[⟨[(0,dd (.ar 16 .u8))],[],[]⟩],HD N⟩
theorem Nk(N:Nat):aF Tryz.prog (bB9 N):=xf N (tc (U0 N) (tc (tS N) (tc (Ps N) (tc (Su N) tn)))) [] [⟨4,false,⟨[(4,.apt (.O 0) 0),(5,.rpt (.O 1) 0),(15,dd (.sl .s)),(16,dd tC),(17,dd tC)],[],[some (.arr true 16 .u8 (bw.zero 16)),some (.rb true tG (Ty.z tG))]⟩⟩] 0 Tryz.func34 rfl (by kernel_rfl) fun a=>by kernel_rfl
def Ox(N:Nat)(a:TF):Option ((bw 16)×Int):=bc (iK N a) fun b=>bf (b.2!=0) (some ((bw.zero 16),b.2)) (bc (HD N 196 [b.1]) fun c=>some (c,0))
abbrev aPm(N:Nat):br:=⟨15,⟨[(0,dd tD)],[],[]⟩,[⟨[(0,dd (.ar 16 .u8)),(1,dd tC)],[],[]⟩],Ox N⟩
theorem RU(N:Nat):aF Tryz.prog (aPm N):=xf N (tc (oL N) (tc (Nk N) tn)) [] [] 0 Tryz.func15 rfl (by kernel_rfl) fun a=>by kernel_rfl
def fB(N:Nat):Option Bool:=bc (wZ N) fun i=>aw i.1.length i.1 (aw i.2.length i.2 (bc (iX N i.1 i.2) fun n=>aw i.1.length i.1 (aw i.2.length i.2 (bc (kL N i.1 i.2 1) fun u=>bc (iK N (u.1,(u.2.1,u.2.2.1))) fun x=>bc (bf (n.1!=0) (aw i.1.length i.1 (aw i.2.length i.2 (aw n.2.length n.2 (some (true,i.1,i.2,n.2))))) (bf (u.2.2.2!=0) (aw i.1.length i.1 (aw i.2.length i.2 (aw n.2.length n.2 (some (true,i.1,i.2,n.2))))) (bf (x.2!=0) (aw i.1.length i.1 (aw i.2.length i.2 (aw n.2.length n.2 (some (true,i.1,i.2,n.2))))) (bf ((n.2.length:Int)!=2) (aw i.1.length i.1 (aw i.2.length i.2 (aw n.2.length n.2 (some (true,i.1,i.2,n.2))))) (aw i.1.length i.1 (aw i.2.length i.2 (aw n.2.length n.2 (some ((!(x.1==([2,0]:cc))),i.1,i.2,n.2))))))))) fun a=>bf a.1 (some false) (az (0<(a.2.1.length:Int)) (cr a.2.1 (0) fun e=>az (2<(a.2.1.length:Int)) (cr a.2.1 (2) fun f=>az (2<=a.2.1.length) (az (2<=a.2.1.length) (az (a.2.1.length<=a.2.1.length) (az (0<(a.2.1.length:Int)) (cr a.2.1 (0) fun b=>az (2<(a.2.1.length:Int)) (cr a.2.1 (2) fun c=>cr ([b,c]) (0) fun d=>az ((2+(a.2.1.length-2))<=a.2.1.length) (bc (sT N (0,((aaq (a.2.1.length-2) (aaD 2 a.2.1)),([]:TA))) (0,([e,f],([]:TA)))) fun j=>aw ([(Operand.tmp 86),(Operand.tmp 89)].length) (aaO [b,c] 0 (d.1,(d.2.1,(d.2.2.1,(d.2.2.2.1,(51,d.2.2.2.2.2)))))) (bc (tU N (0,([e,f],([]:TA))) (0,((aaO [b,c] 0 (d.1,(d.2.1,(d.2.2.1,(d.2.2.2.1,(51,d.2.2.2.2.2)))))),([]:TA)))) fun k=>az ((1+(2-1))<=a.2.1.length) (aw a.2.2.1.length a.2.2.1 (bc (iK N (2,((aaq (2-1) (aaD 1 a.2.1)),a.2.2.1))) fun p=>bc (uZ N p.1) fun m=>az ((1+(2-1))<=a.2.1.length) (aw a.2.2.1.length a.2.2.1 (bc (Ox N (2,((aaq (2-1) (aaD 1 a.2.1)),a.2.2.1))) fun q=>az ((1+(2-1))<=a.2.1.length) (aw a.2.2.1.length a.2.2.1 (az ((1+(2-1))<=a.2.1.length) (aw a.2.2.1.length a.2.2.1 (bc (kB N [(2,((aaq (2-1) (aaD 1 a.2.1)),a.2.2.1)),(0,([e,f],([]:TA))),(2,((aaq (2-1) (aaD 1 a.2.1)),a.2.2.1))]) fun h=>aw ([(Operand.tmp 86),(Operand.tmp 89)].length) (aaO [b,c] 0 (d.1,(d.2.1,(d.2.2.1,(d.2.2.2.1,(51,d.2.2.2.2.2)))))) (bc (wX N (0,([e,f],([]:TA))) (0,((aaO [b,c] 0 (d.1,(d.2.1,(d.2.2.1,(d.2.2.2.1,(51,d.2.2.2.2.2)))))),([]:TA)))) fun y=>bc (bf (j.2.2.2==0) (bf (k.1==0) (bf (p.2==0) (bf (m.2.2.2==0) (bf (q.2==0) (bf (h.1==0) (aw a.2.1.length a.2.1 (aw a.2.2.1.length a.2.2.1 (aw a.2.2.2.length a.2.2.2 (aw k.2.length k.2 (aw h.2.1.length h.2.1 (aw h.2.2.length h.2.2 (aw a.2.2.1.length a.2.2.1 (aw ([(Operand.tmp 86),(Operand.tmp 89)].length) (aaO [b,c] 0 (d.1,(d.2.1,(d.2.2.1,(d.2.2.2.1,(51,d.2.2.2.2.2)))))) (some (p.1,(y.2.2.2==24),a.2.1,a.2.2.1,a.2.2.2,(0:Int),(2:Int),((1:Nat):Int),(((2-1):Nat):Int),(0:Int),j.1,j.2.1,j.2.2.1,k.2,m.1,m.2.1,m.2.2.1,q.1,h.2.1,h.2.2,[e,f],([]:TA),(aaO [b,c] 0 (d.1,(d.2.1,(d.2.2.1,(d.2.2.2.1,(51,d.2.2.2.2.2)))))),([]:TA))))))))))) (aw a.2.1.length a.2.1 (aw a.2.2.1.length a.2.2.1 (aw a.2.2.2.length a.2.2.2 (aw k.2.length k.2 (aw h.2.1.length h.2.1 (aw h.2.2.length h.2.2 (aw a.2.2.1.length a.2.2.1 (aw ([(Operand.tmp 86),(Operand.tmp 89)].length) (aaO [b,c] 0 (d.1,(d.2.1,(d.2.2.1,(d.2.2.2.1,(51,d.2.2.2.2.2)))))) (some (p.1,false,a.2.1,a.2.2.1,a.2.2.2,(0:Int),(2:Int),((1:Nat):Int),(((2-1):Nat):Int),(0:Int),j.1,j.2.1,j.2.2.1,k.2,m.1,m.2.1,m.2.2.1,q.1,h.2.1,h.2.2,[e,f],([]:TA),(aaO [b,c] 0 (d.1,(d.2.1,(d.2.2.1,(d.2.2.2.1,(51,d.2.2.2.2.2)))))),([]:TA)))))))))))) (aw a.2.1.length a.2.1 (aw a.2.2.1.length a.2.2.1 (aw a.2.2.2.length a.2.2.2 (aw k.2.length k.2 (aw h.2.1.length h.2.1 (aw h.2.2.length h.2.2 (aw a.2.2.1.length a.2.2.1 (aw ([(Operand.tmp 86),(Operand.tmp 89)].length) (aaO [b,c] 0 (d.1,(d.2.1,(d.2.2.1,(d.2.2.2.1,(51,d.2.2.2.2.2)))))) (some (p.1,false,a.2.1,a.2.2.1,a.2.2.2,(0:Int),(2:Int),((1:Nat):Int),(((2-1):Nat):Int),(0:Int),j.1,j.2.1,j.2.2.1,k.2,m.1,m.2.1,m.2.2.1,q.1,h.2.1,h.2.2,[e,f],([]:TA),(aaO [b,c] 0 (d.1,(d.2.1,(d.2.2.1,(d.2.2.2.1,(51,d.2.2.2.2.2)))))),([]:TA)))))))))))) (aw a.2.1.length a.2.1 (aw a.2.2.1.length a.2.2.1 (aw a.2.2.2.length a.2.2.2 (aw k.2.length k.2 (aw h.2.1.length h.2.1 (aw h.2.2.length h.2.2 (aw a.2.2.1.length a.2.2.1 (aw ([(Operand.tmp 86),(Operand.tmp 89)].length) (aaO [b,c] 0 (d.1,(d.2.1,(d.2.2.1,(d.2.2.2.1,(51,d.2.2.2.2.2)))))) (some (p.1,false,a.2.1,a.2.2.1,a.2.2.2,(0:Int),(2:Int),((1:Nat):Int),(((2-1):Nat):Int),(0:Int),j.1,j.2.1,j.2.2.1,k.2,m.1,m.2.1,m.2.2.1,q.1,h.2.1,h.2.2,[e,f],([]:TA),(aaO [b,c] 0 (d.1,(d.2.1,(d.2.2.1,(d.2.2.2.1,(51,d.2.2.2.2.2)))))),([]:TA)))))))))))) (aw a.2.1.length a.2.1 (aw a.2.2.1.length a.2.2.1 (aw a.2.2.2.length a.2.2.2 (aw k.2.length k.2 (aw h.2.1.length h.2.1 (aw h.2.2.length h.2.2 (aw a.2.2.1.length a.2.2.1 (aw ([(Operand.tmp 86),(Operand.tmp 89)].length) (aaO [b,c] 0 (d.1,(d.2.1,(d.2.2.1,(d.2.2.2.1,(51,d.2.2.2.2.2)))))) (some (p.1,false,a.2.1,a.2.2.1,a.2.2.2,(0:Int),(2:Int),((1:Nat):Int),(((2-1):Nat):Int),(0:Int),j.1,j.2.1,j.2.2.1,k.2,m.1,m.2.1,m.2.2.1,q.1,h.2.1,h.2.2,[e,f],([]:TA),(aaO [b,c] 0 (d.1,(d.2.1,(d.2.2.1,(d.2.2.2.1,(51,d.2.2.2.2.2)))))),([]:TA)))))))))))) (aw a.2.1.length a.2.1 (aw a.2.2.1.length a.2.2.1 (aw a.2.2.2.length a.2.2.2 (aw k.2.length k.2 (aw h.2.1.length h.2.1 (aw h.2.2.length h.2.2 (aw a.2.2.1.length a.2.2.1 (aw ([(Operand.tmp 86),(Operand.tmp 89)].length) (aaO [b,c] 0 (d.1,(d.2.1,(d.2.2.1,(d.2.2.2.1,(51,d.2.2.2.2.2)))))) (some (p.1,false,a.2.1,a.2.2.1,a.2.2.2,(0:Int),(2:Int),((1:Nat):Int),(((2-1):Nat):Int),(0:Int),j.1,j.2.1,j.2.2.1,k.2,m.1,m.2.1,m.2.2.1,q.1,h.2.1,h.2.2,[e,f],([]:TA),(aaO [b,c] 0 (d.1,(d.2.1,(d.2.2.1,(d.2.2.2.1,(51,d.2.2.2.2.2)))))),([]:TA)))))))))))) (aw a.2.1.length a.2.1 (aw a.2.2.1.length a.2.2.1 (aw a.2.2.2.length a.2.2.2 (aw k.2.length k.2 (aw h.2.1.length h.2.1 (aw h.2.2.length h.2.2 (aw a.2.2.1.length a.2.2.1 (aw ([(Operand.tmp 86),(Operand.tmp 89)].length) (aaO [b,c] 0 (d.1,(d.2.1,(d.2.2.1,(d.2.2.2.1,(51,d.2.2.2.2.2)))))) (some (p.1,false,a.2.1,a.2.2.1,a.2.2.2,(0:Int),(2:Int),((1:Nat):Int),(((2-1):Nat):Int),(0:Int),j.1,j.2.1,j.2.2.1,k.2,m.1,m.2.1,m.2.2.1,q.1,h.2.1,h.2.2,[e,f],([]:TA),(aaO [b,c] 0 (d.1,(d.2.1,(d.2.2.1,(d.2.2.2.1,(51,d.2.2.2.2.2)))))),([]:TA)))))))))))) fun g=>bc (bf g.2.1 (az (0<(g.2.2.2.2.1.length:Int)) (cr g.2.2.2.2.1 (0) fun v=>aw g.2.2.2.2.2.2.2.2.2.2.2.2.2.2.2.2.2.2.2.2.1.length g.2.2.2.2.2.2.2.2.2.2.2.2.2.2.2.2.2.2.2.2.1 (aw g.2.2.2.2.2.2.2.2.2.2.2.2.2.2.2.2.2.2.2.2.2.1.length g.2.2.2.2.2.2.2.2.2.2.2.2.2.2.2.2.2.2.2.2.2.1 (bc (eZ N v (g.2.2.2.2.2.1,(g.2.2.2.2.2.2.2.2.2.2.2.2.2.2.2.2.2.2.2.2.1,g.2.2.2.2.2.2.2.2.2.2.2.2.2.2.2.2.2.2.2.2.2.1))) fun z=>bf z (az (1<(g.2.2.2.2.1.length:Int)) (cr g.2.2.2.2.1 (1) fun w=>az ((g.2.2.2.2.2.2.2.1.toNat+g.2.2.2.2.2.2.2.2.1.toNat)<=g.2.2.1.length) (aw g.2.2.2.1.length g.2.2.2.1 (bc (eZ N w (g.2.2.2.2.2.2.1,((aaq g.2.2.2.2.2.2.2.2.1.toNat (aaD g.2.2.2.2.2.2.2.1.toNat g.2.2.1)),g.2.2.2.1))) fun aa=>bf aa (az (1<=g.2.2.1.length) (az ((0+1)<=g.2.2.1.length) (bc (eZ N (g.2.2.2.2.2.2.2.2.2.2.1,(g.2.2.2.2.2.2.2.2.2.2.2.1,g.2.2.2.2.2.2.2.2.2.2.2.2.1)) (0,((aaq 1 (aaD 0 g.2.2.1)),([]:TA)))) fun ab=>bf ab (bf ((g.2.2.2.2.2.2.2.2.2.2.2.2.2.1.length:Int)==1) (az (0<(g.2.2.2.2.2.2.2.2.2.2.2.2.2.1.length:Int)) (cr g.2.2.2.2.2.2.2.2.2.2.2.2.2.1 (0) fun o=>az (0<(g.2.2.1.length:Int)) (cr g.2.2.1 (0) fun r=>az (0<(g.2.2.2.2.2.2.2.2.2.2.2.2.2.2.2.2.2.2.2.2.2.2.1.length:Int)) (cr g.2.2.2.2.2.2.2.2.2.2.2.2.2.2.2.2.2.2.2.2.2.2.1 (0) fun t=>bf (oA [(Sh.s 1),(Sh.s 1),(Sh.s 1),(Sh.s 1),(Sh.s 1),(Sh.s 1),(Sh.s 1),(Sh.s 1),(Sh.s 1),(Sh.s 1),(Sh.s 1)] (o.1.1==r.1) (oA [(Sh.s 1),(Sh.s 1),(Sh.s 1),(Sh.s 1),(Sh.s 1),(Sh.s 1),(Sh.s 1),(Sh.s 1),(Sh.s 1),(Sh.s 1)] (o.1.2.1==r.2.1) (oA [(Sh.s 1),(Sh.s 1),(Sh.s 1),(Sh.s 1),(Sh.s 1),(Sh.s 1),(Sh.s 1),(Sh.s 1),(Sh.s 1)] (o.1.2.2.1==r.2.2.1) (oA [(Sh.s 1),(Sh.s 1),(Sh.s 1),(Sh.s 1),(Sh.s 1),(Sh.s 1),(Sh.s 1),(Sh.s 1)] (o.1.2.2.2.1==r.2.2.2.1) (oA [(Sh.s 1),(Sh.s 1),(Sh.s 1),(Sh.s 1),(Sh.s 1),(Sh.s 1),(Sh.s 1)] (o.1.2.2.2.2.1==r.2.2.2.2.1) (oA [(Sh.s 1),(Sh.s 1),(Sh.s 1),(Sh.s 1),(Sh.s 1),(Sh.s 1)] (o.1.2.2.2.2.2==r.2.2.2.2.2) (oA [(Sh.s 1),(Sh.s 1),(Sh.s 1),(Sh.s 1),(Sh.s 1)] (o.2.1==t.1) (oA [(Sh.s 1),(Sh.s 1),(Sh.s 1),(Sh.s 1)] (o.2.2.1==t.2.1) (oA [(Sh.s 1),(Sh.s 1),(Sh.s 1)] (o.2.2.2.1==t.2.2.1) (oA [(Sh.s 1),(Sh.s 1)] (o.2.2.2.2.1==t.2.2.2.1) (oA [(Sh.s 1)] (o.2.2.2.2.2.1==t.2.2.2.2.1) (oA ([]:(List Sh)) (o.2.2.2.2.2.2==t.2.2.2.2.2) true)))))))))))) (az ((g.2.2.2.2.2.2.2.1.toNat+g.2.2.2.2.2.2.2.2.1.toNat)<=g.2.2.1.length) (aw g.2.2.2.1.length g.2.2.2.1 (bc (eZ N (g.2.2.2.2.2.2.2.2.2.2.2.2.2.2.1,(g.2.2.2.2.2.2.2.2.2.2.2.2.2.2.2.1,g.2.2.2.2.2.2.2.2.2.2.2.2.2.2.2.2.1)) (g.2.2.2.2.2.2.1,((aaq g.2.2.2.2.2.2.2.2.1.toNat (aaD g.2.2.2.2.2.2.2.1.toNat g.2.2.1)),g.2.2.2.1))) fun ac=>bf ac (bc (HD N 196 [g.1]) fun ad=>bf (g.2.2.2.2.2.2.2.2.2.2.2.2.2.2.2.2.2.1.l==ad.l) (aw g.2.2.2.2.2.2.2.2.2.2.2.2.2.2.2.2.2.2.1.length g.2.2.2.2.2.2.2.2.2.2.2.2.2.2.2.2.2.2.1 (aw g.2.2.1.length g.2.2.1 (bc (iR N g.2.2.2.2.2.2.2.2.2.2.2.2.2.2.2.2.2.2.1 g.2.2.1) fun ae=>bf ae (aw g.2.2.2.2.2.2.2.2.2.2.2.2.2.2.2.2.2.2.2.1.length g.2.2.2.2.2.2.2.2.2.2.2.2.2.2.2.2.2.2.2.1 (aw g.2.2.2.1.length g.2.2.2.1 (bc (eT N g.2.2.2.2.2.2.2.2.2.2.2.2.2.2.2.2.2.2.2.1 g.2.2.2.1) fun af=>some af))) (some false)))) (some false)) (some false)))) (some false))))) (some false)) (some false)))) (some false))))) (some false))))) (some false)) fun ag=>some ag)))))))))))))))))))))))
abbrev Sw(N:Nat):br:=⟨10,⟨[],[],[]⟩,[⟨[(0,dd .b)],[],[]⟩],fB N⟩
theorem Zo(N:Nat):aF Tryz.prog (Sw N):=xf N (tc (Sd N) (tc (wV N) (tc (LC N) (tc (oL N) (tc (aE3 N) (tc (Z7 N) (tc (QR N) (tc (RU N) (tc (yG N) (tc (Ub N) (tc (M5 N) (tc (Nk N) (tc (wH N) (tc (oJ N) tn)))))))))))))) [] [⟨21,true,⟨[(0,dd .b)],[],[]⟩⟩,⟨20,true,⟨[(1,.slw (.O 0) tB 0),(2,.slw (.O 1) tA 0),(3,.slw (.O 2) tD 0),(9,.ptr (.O 3) 0),(10,.ptr (.O 4) 0),(12,.ptr (.O 5) 0),(13,.ptr (.O 6) 0),(15,.slw (.O 7) tL 0),(17,dd .s),(19,.ptr (.O 8) 0),(21,.apt (.O 9) 0),(23,.slw (.O 10) tB 0),(24,.slw (.O 11) tA 0),(28,dd .b)],[],[some (.row false tB []),some (.row false tA []),some (.row true tD []),some (.box [dd tC,.slw (.O 12) tB 0,.slw (.O 13) tA 0]),some (.box [dd tC,.sl (.O 0) tB 0 0,.slw (.O 1) tA 0]),some (.box [dd tC,.slw (.O 14) tB 0,.slw (.O 15) tA 0]),some (.box [dd tC,dd (.sl tB),dd (.sl tA)]),some (.row true tL []),some (.box [dd tC,dd (.sl tB),dd (.sl tA)]),some (.arr true 16 .u8 (bw.zero 16)),some (.row true tB []),some (.row true tA []),some (.row false tB []),some (.row true tA []),some (.row false tB []),some (.row true tA [])]⟩⟩,⟨6,true,⟨[(1,.slw (.O 0) tB 0),(2,.slw (.O 1) tA 0),(3,.slw (.O 2) tD 0),(68,dd .b)],[],[some (.row false tB []),some (.row false tA []),some (.row true tD [])]⟩⟩] 0 Tryz.func10 rfl (by kernel_rfl) fun a=>by kernel_rfl
def fZ(N:Nat)(l:TG->TA->TC->Int->Int->TL->TL->Option Bool)(g:TG)(h:TA)(i:TC)(j f:Int)(a b:TL):Option Bool:=bf (decide (f<j)) (bc (aZ i f fun k=>bf (decide ((a.length:Int)>0)) (az ((a.length:Int)≠0) (az (0<=(aa4 (δ .i64 k) (a.length:Int))) (az ((aa4 (δ .i64 k) (a.length:Int))<(a.length:Int)) (cr a ((aa4 (δ .i64 k) (a.length:Int)).toNat) fun c=>aw b.length b (az (((b.length+[c].length)*56)<=140737488355328) (aw a.length a (aw ((b++[c]).length) (b++[c]) (some (g,h,i,j,f,a,(b++[c])))))))))) (aw a.length a (aw b.length b (some (g,h,i,j,f,a,b))))) fun d=>ck .i64 (d.2.2.2.2.1+1) (aw d.2.2.2.2.2.1.length d.2.2.2.2.2.1 (aw d.2.2.2.2.2.2.length d.2.2.2.2.2.2 (l d.1 d.2.1 d.2.2.1 d.2.2.2.1 (d.2.2.2.2.1+1) d.2.2.2.2.2.1 d.2.2.2.2.2.2)))) (aw b.length b (bc (kB N b) fun e=>bc (bc (fB N) fun m=>bf m (bf (e.1==0) (aw e.2.1.length e.2.1 (bc (iR N e.2.1 g) fun n=>bf n (aw e.2.2.length e.2.2 (bc (eT N e.2.2 h) fun o=>some o)) (some false))) (some false)) (some false)) fun p=>some p))
def gA(N:Nat):Nat->TG->TA->TC->Int->Int->TL->TL->Option Bool:=aN [(.sl tB),(.sl tA),tH,tC,tC,(.sl tD),(.sl tD)] (fZ N)
def fY(N:Nat)(l:TG->TA->TC->Int->Int->TL->TL->Option Bool)(g:TG)(h:TA)(i:TC)(j f:Int)(b e:TL):Option Bool:=bf (decide (f<j)) (az (0<=f) (az (f<(b.length:Int)) (cr b f.toNat fun c=>bc (kL N g h c.1) fun k=>bc (bc (cR N c) fun m=>bf (m !=0) (aw b.length b (aw e.length e (aw b.length b (some (g,h,i,f,j,f,true,b,e,c.1,c.2.1,c.2.2))))) (bf (decide (f>0)) (ck .i64 (f-1) (az (0<=(f-1)) (az ((f-1)<(b.length:Int)) (cr b ((f-1).toNat) fun n=>bf (decide (c.1<=n.1)) (aw b.length b (aw e.length e (aw b.length b (some (g,h,i,f,j,f,true,b,e,c.1,c.2.1,c.2.2))))) (ck .i64 ((c.2.1.length:Int)+(c.2.2.length:Int)) (bf (((c.2.1.length:Int)+(c.2.2.length:Int))==0) (aw b.length b (aw e.length e (aw b.length b (some (g,h,i,f,j,f,true,b,e,c.1,c.2.1,c.2.2))))) (bf (k.2.2.2!=0) (aw b.length b (aw e.length e (aw b.length b (some (g,h,i,f,j,f,true,b,e,c.1,c.2.1,c.2.2))))) (bc (eZ N (k.1,(k.2.1,k.2.2.1)) c) fun o=>aw b.length b (aw e.length e (aw b.length b (some (g,h,i,f,j,f,(!o),b,e,c.1,c.2.1,c.2.2)))))))))))) (ck .i64 ((c.2.1.length:Int)+(c.2.2.length:Int)) (bf (((c.2.1.length:Int)+(c.2.2.length:Int))==0) (aw b.length b (aw e.length e (aw b.length b (some (g,h,i,f,j,f,true,b,e,c.1,c.2.1,c.2.2))))) (bf (k.2.2.2!=0) (aw b.length b (aw e.length e (aw b.length b (some (g,h,i,f,j,f,true,b,e,c.1,c.2.1,c.2.2))))) (bc (eZ N (k.1,(k.2.1,k.2.2.1)) c) fun p=>aw b.length b (aw e.length e (aw b.length b (some (g,h,i,f,j,f,(!p),b,e,c.1,c.2.1,c.2.2)))))))))) fun d=>bf d.2.2.2.2.2.2.1 (some false) (bc (bf (decide (d.2.2.2.1<(d.2.2.1.length:Int))) (aZ d.2.2.1 d.2.2.2.1 fun q=>ck .i64 ((d.2.2.2.2.2.2.2.2.1.length:Int)+1) (az (((d.2.2.2.2.2.2.2.2.1.length:Int)+1)≠0) (aw d.2.2.2.2.2.2.2.1.length d.2.2.2.2.2.2.2.1 (aw d.2.2.2.2.2.2.2.2.1.length d.2.2.2.2.2.2.2.2.1 (aw d.2.2.2.2.2.2.2.1.length d.2.2.2.2.2.2.2.1 (some (d.1,d.2.1,d.2.2.1,(aa4 (δ .i64 q) ((d.2.2.2.2.2.2.2.2.1.length:Int)+1)),d.2.2.2.2.1,d.2.2.2.2.2.1,d.2.2.2.2.2.2.2.1,d.2.2.2.2.2.2.2.2.1,d.2.2.2.2.2.2.2.2.2.1,d.2.2.2.2.2.2.2.2.2.2.1,d.2.2.2.2.2.2.2.2.2.2.2))))))) (aw d.2.2.2.2.2.2.2.1.length d.2.2.2.2.2.2.2.1 (aw d.2.2.2.2.2.2.2.2.1.length d.2.2.2.2.2.2.2.2.1 (aw d.2.2.2.2.2.2.2.1.length d.2.2.2.2.2.2.2.1 (some (d.1,d.2.1,d.2.2.1,(0:Int),d.2.2.2.2.1,d.2.2.2.2.2.1,d.2.2.2.2.2.2.2.1,d.2.2.2.2.2.2.2.2.1,d.2.2.2.2.2.2.2.2.2.1,d.2.2.2.2.2.2.2.2.2.2.1,d.2.2.2.2.2.2.2.2.2.2.2)))))) fun a=>az (0<=a.2.2.2.1) (az (a.2.2.2.1.toNat<=a.2.2.2.2.2.2.2.1.length) (az ((0+a.2.2.2.1.toNat)<=a.2.2.2.2.2.2.2.1.length) (az (((aaq a.2.2.2.1.toNat (aaD 0 a.2.2.2.2.2.2.2.1)).length*56)<=140737488355328) (az (a.2.2.2.2.2.2.2.2.1=a.2.2.2.2.2.2.2.2.1) (az (a.2.2.2.2.2.2.2.2.2.1=a.2.2.2.2.2.2.2.2.2.1) (az (a.2.2.2.2.2.2.2.2.2.2=a.2.2.2.2.2.2.2.2.2.2) (az (a.2.2.2.2.2.2.2.1=a.2.2.2.2.2.2.2.1) (aw ((aaq a.2.2.2.1.toNat (aaD 0 a.2.2.2.2.2.2.2.1)).length) (aaq a.2.2.2.1.toNat (aaD 0 a.2.2.2.2.2.2.2.1)) (az ((((aaq a.2.2.2.1.toNat (aaD 0 a.2.2.2.2.2.2.2.1)).length+[a.2.2.2.2.2.2.2.2].length)*56)<=140737488355328) (az (a.2.2.2.2.2.2.2.2.1=a.2.2.2.2.2.2.2.2.1) (az (a.2.2.2.2.2.2.2.2.2.1=a.2.2.2.2.2.2.2.2.2.1) (az (a.2.2.2.2.2.2.2.2.2.2=a.2.2.2.2.2.2.2.2.2.2) (az (a.2.2.2.2.2.2.2.1=a.2.2.2.2.2.2.2.1) (az (0<=a.2.2.2.1) (az (a.2.2.2.1.toNat<=a.2.2.2.2.2.2.2.1.length) (az (a.2.2.2.2.2.2.2.1.length<=a.2.2.2.2.2.2.2.1.length) (aw (((aaq a.2.2.2.1.toNat (aaD 0 a.2.2.2.2.2.2.2.1))++[a.2.2.2.2.2.2.2.2]).length) ((aaq a.2.2.2.1.toNat (aaD 0 a.2.2.2.2.2.2.2.1))++[a.2.2.2.2.2.2.2.2]) (az ((a.2.2.2.1.toNat+(a.2.2.2.2.2.2.2.1.length-a.2.2.2.1.toNat))<=a.2.2.2.2.2.2.2.1.length) (az (((((aaq a.2.2.2.1.toNat (aaD 0 a.2.2.2.2.2.2.2.1))++[a.2.2.2.2.2.2.2.2]).length+(aaq (a.2.2.2.2.2.2.2.1.length-a.2.2.2.1.toNat) (aaD a.2.2.2.1.toNat a.2.2.2.2.2.2.2.1)).length)*56)<=140737488355328) (az (a.2.2.2.2.2.2.2.2.1=a.2.2.2.2.2.2.2.2.1) (az (a.2.2.2.2.2.2.2.2.2.1=a.2.2.2.2.2.2.2.2.2.1) (az (a.2.2.2.2.2.2.2.2.2.2=a.2.2.2.2.2.2.2.2.2.2) (az (a.2.2.2.2.2.2.2.1=a.2.2.2.2.2.2.2.1) (ck .i64 (a.2.2.2.2.2.1+1) (aw a.2.2.2.2.2.2.1.length a.2.2.2.2.2.2.1 (aw ((((aaq a.2.2.2.1.toNat (aaD 0 a.2.2.2.2.2.2.2.1))++[a.2.2.2.2.2.2.2.2])++(aaq (a.2.2.2.2.2.2.2.1.length-a.2.2.2.1.toNat) (aaD a.2.2.2.1.toNat a.2.2.2.2.2.2.2.1))).length) (((aaq a.2.2.2.1.toNat (aaD 0 a.2.2.2.2.2.2.2.1))++[a.2.2.2.2.2.2.2.2])++(aaq (a.2.2.2.2.2.2.2.1.length-a.2.2.2.1.toNat) (aaD a.2.2.2.1.toNat a.2.2.2.2.2.2.2.1))) (aw a.2.2.2.2.2.2.1.length a.2.2.2.2.2.2.1 (l a.1 a.2.1 a.2.2.1 a.2.2.2.2.1 (a.2.2.2.2.2.1+1) a.2.2.2.2.2.2.1 (((aaq a.2.2.2.1.toNat (aaD 0 a.2.2.2.2.2.2.2.1))++[a.2.2.2.2.2.2.2.2])++(aaq (a.2.2.2.2.2.2.2.1.length-a.2.2.2.1.toNat) (aaD a.2.2.2.1.toNat a.2.2.2.2.2.2.2.1))))))))))))))))))))))))))))))))))) (aw b.length b (aw e.length e (gA N N g h i (i.length:Int) 0 b e)))
def fX(N:Nat):Nat->TG->TA->TC->Int->Int->TL->TL->Option Bool:=aN [(.sl tB),(.sl tA),tH,tC,tC,(.sl tD),(.sl tD)] (fY N)
def gP(N:Nat)(c:TG)(d:TA)(e:TC):Option Bool:=bc (bc (oY N c d) fun f=>bf (!f) (some (c,d,e,true)) (some (c,d,e,(decide ((e.length:Int)>40))))) fun b=>bf b.2.2.2 (bc (fB N) fun g=>some g) (bc (iX N b.1 b.2.1) fun a=>bf (a.1!=0) (bc (bc (fB N) fun h=>bf h (some ((a.2.length:Int)==0)) (some false)) fun i=>some i) (aw a.2.length a.2 (aw a.2.length a.2 (fX N N b.1 b.2.1 b.2.2.1 (a.2.length:Int) 0 a.2 ([]:TL)))))
abbrev zU(N:Nat):br:=⟨5,⟨[(0,dd (.sl tB)),(1,dd (.sl tA)),(2,dd tH)],[],[]⟩,[⟨[(0,dd .b)],[],[]⟩],gP N⟩
theorem xZ(N:Nat):aF Tryz.prog (zU N):=xf N (tc (Ze N) (tc (wV N) (tc (LC N) (tc (lV N) (tc (M5 N) (tc (yG N) (tc (wH N) (tc (oJ N) (tc (Zo N) tn))))))))) [110,113,115,116,120,121,117,114,142] [⟨32,true,⟨[(6,dd .b)],[],[]⟩⟩,⟨28,true,⟨[(0,dd (.sl tB)),(1,dd (.sl tA)),(7,.slw (.O 0) tD 0),(9,.slw (.O 1) tD 0),(123,dd tH),(124,dd tC),(125,dd tC)],[],[some (.row true tD []),some (.row true tD [])]⟩⟩,⟨25,false,⟨[(0,dd (.sl tB)),(1,dd (.sl tA)),(7,.slw (.O 0) tD 0),(9,.slw (.O 1) tD 0),(123,dd tH),(124,dd tC),(125,dd tC)],[],[some (.row true tD []),some (.row true tD [])]⟩⟩,⟨21,true,⟨[(0,dd (.sl tB)),(1,dd (.sl tA)),(2,dd tH),(7,.slw (.O 0) tD 0),(9,.slw (.O 1) tD 0),(11,.ptr (.O 2) 0),(14,dd tC),(44,.slw (.O 0) tD 0),(45,dd tC),(46,dd tC)],[],[some (.row true tD []),some (.row true tD []),some (.box [dd tC,dd (.sl tB),dd (.sl tA)])]⟩⟩,⟨18,true,⟨[(0,dd (.sl tB)),(1,dd (.sl tA)),(2,dd tH),(7,.slw (.O 0) tD 0),(9,.slw (.O 1) tD 0),(10,dd tC),(11,.ptr (.O 2) 0),(44,.slw (.O 0) tD 0),(45,dd tC),(46,dd tC),(96,dd .b)],[],[some (.row true tD []),some (.row true tD []),some (.box [dd tC,dd (.sl tB),dd (.sl tA)])]⟩⟩,⟨11,false,⟨[(0,dd (.sl tB)),(1,dd (.sl tA)),(2,dd tH),(7,.slw (.O 0) tD 0),(9,.slw (.O 1) tD 0),(44,.slw (.O 0) tD 0),(45,dd tC),(46,dd tC)],[],[some (.row true tD []),some (.row true tD [])]⟩⟩,⟨7,true,⟨[(6,dd .b)],[],[]⟩⟩,⟨2,true,⟨[(0,dd (.sl tB)),(1,dd (.sl tA)),(2,dd tH),(28,dd .b)],[],[]⟩⟩] 0 Tryz.func5 rfl (by kernel_rfl) fun a=>by kernel_rfl
end Go.Proofs.Tryz

/- Texts of this claim. -/
import Derived.Test.YtoklpgfaedjjpaaGreatDoorProg
import Derived.Test.YtoklpgfaedjjpaaGreatDoorYB
import Derived.Shelf.Lays
import Derived.Shelf.Lays2
import Derived.Shelf.Sort.Plain
import Derived.Shelf.Slices.In.SortNone
import Derived.Sort.OwnSortedInts
import Derived.Shelf.Slices.CompactI
import Derived.Shelf.Strings.Builder1
import Derived.Maps.AppendAt
open Array renaming ext'->ac8,getElem?_eq_none->acp,getElem?_eq_some_iff->aad,getElem?_modify->acx,getElem?_toList->aai
open Go.IntKind renaming bits->abQ,wrap->δ
open Int renaming tdiv->ac3,tmod->abf
open List renaming drop->aaV,ext_getElem?->abO,getElem?_eq_getElem->ξ,getElem?_eq_none->aay,getElem?_map->aaf,getElem?_take_of_lt->aaH,length_append->ε,length_eq_zero_iff->aas,length_map->κ,length_take->aaq,map_append->aau,map_cons->aaN,map_eq_nil_iff->abR,mem_cons->υ,mem_cons_of_mem->aaa,mem_cons_self->aao,mem_singleton->aap,pairwise_cons->aav,replicate->aag,set->aaO,take->aaE
open Nat renaming le_add_right->abL,le_refl->me,mul_one->aaL,zero_add->aal,zero_le->aa2,zero_mul->ac4
open Option renaming map_eq_some_iff->ι
set_option linter.all false
set_option maxRecDepth 8000
namespace Go.Proofs.Tryz
open Go.Eng Go.RowKit
abbrev tC:Ty:=.i .i64
abbrev tJ:Ty:=.w (.p .b (.p .s .s))
abbrev tE:Ty:=.w (.p tC tJ)
abbrev tA:Ty:=.w (.p tC (.p tC (.p tC (.p tC (.p tC (.p tC (.p tC (.w (.sl tE)))))))))
abbrev TL:Type:=Bool×(bw×bw)
abbrev TE:Type:=List (Int×TL)
abbrev TH:Type:=Int×(Int×(Int×(Int×(Int×(Int×(Int×TE))))))
abbrev TA:Type:=List TH
abbrev tB:Ty:=.w (.p tC (.p tC (.p tC (.p tC (.p tC tC)))))
abbrev TM:Type:=Int×Int
abbrev uw:Type:=Int×TM
abbrev TB:Type:=Int×(Int×(Int×uw))
abbrev TC:Type:=List Int
abbrev TG:Type:=List TB
abbrev TF:Type:=Int×(TG×TA)
abbrev tD:Ty:=.w (.p tC (.p (.sl tB) (.sl tA)))
abbrev tI:Ty:=.i .u32
abbrev tF:Ty:=.sl tI
abbrev tK:Ty:=.i .u64
abbrev tG:Ty:=.w (.p (.ar 8 .u32) (.p (.ar 64 .u8) tK))
abbrev TI:Type:=(bz 8)×((bz 64)×Int)
abbrev w7:Type:=bw×Bool
abbrev TJ:Type:=List w7
abbrev tH:Ty:=.sl (.i .u8)
abbrev TK:Type:=List bw
abbrev TN:Type:=List TF
abbrev TO:Type:=Int×(TG×(TA×Int))
abbrev TP:Type:=Int×(Int×(Int×(Int×(Int×(Int×(Int×(TE×Int)))))))
abbrev TQ:Type:=Int×(TC×(Int×(Int×(TC×TC))))
abbrev TR:Type:=List (TB×TB)
abbrev tL:Ty:=.w (.p tB tB)
abbrev TS:Type:=Int×TA
abbrev TT:Type:=Int×TG
abbrev TU:Type:=List (TM×TB)
abbrev TV:Type:=List TA
abbrev tM:Ty:=.sl (.sl tA)
abbrev TW:Type:=Int×TN
abbrev tN:Ty:=.ar 64 .u32
abbrev TX:Type:=TC×(Int×((bz 64)×(bz 64)))
abbrev TY:Type:=Int×(Int×TC)
abbrev TZ:Type:=Int×(Int×TK)
abbrev tO:Ty:=.w (.p tC tC)
abbrev xa:Type:=Int×TF
abbrev lV:Value:=.iface 215 (.agg #[])
def qE(N:Nat)(p1:Int):Option Int:=some p1
abbrev pV(N:Nat):bx:=⟨97,⟨[(0,.ptr (.B 0) 0)],[some (.box [dd tC])],[]⟩,[⟨[],[some (.box [dd tC])],[]⟩],qE N⟩
theorem xD(N:Nat):yD Tryz.prog .returning .returning (pV N):=Ms N (T:=[]) trivial [] [] (fn:=Tryz.f97) (pv:=.nilIface) Tryz.func97 rfl rfl rfl rfl rfl rfl rfl (by rw[Tryz.ntmps97];decide) (by kernel_rfl) Xm (by rw[Tryz.ntmps97];decide) (fun a=>by kernel_rfl)
def eI(N:Nat)(p1:Int):Option Int:=some 11
abbrev pX(N:Nat):bx:=⟨97,⟨[(0,.ptr (.B 0) 0)],[some (.box [dd tC])],[]⟩,[⟨[],[some (.box [dd tC])],[]⟩],eI N⟩
theorem xS(N:Nat):yD Tryz.prog (.panicking [{v:=lV,recovered:=false}]) (.panicking [{v:=lV,recovered:=true}]) (pX N):=Ms N (T:=[]) trivial [] [] (fn:=Tryz.f97) (pv:=lV) Tryz.func97 rfl rfl rfl rfl rfl rfl rfl (by rw[Tryz.ntmps97];decide) (by kernel_rfl) RB (by rw[Tryz.ntmps97];decide) (fun a=>by kernel_rfl)
set_option maxRecDepth 8000
set_option synthInstance.maxSize 100000000
set_option synthInstance.maxHeartbeats 4000000
def pN(N:Nat)(a:bw):Option Bool:=bj (bk (a==([]:bw)) (some true) (bB a (0) fun b=>some ((b.toNat:Int)!=0))) fun c=>some c
abbrev aUg(N:Nat):bx:=⟨195,⟨[(0,dd .s)],[],[]⟩,[⟨[(0,dd .b)],[],[]⟩],pN N⟩
theorem YH(N:Nat):aF Tryz.prog (aUg N):=xf N tn [] [⟨1,true,⟨[(2,dd .b)],[],[]⟩⟩] 0 Tryz.func195 rfl (by kernel_rfl) fun a=>by kernel_rfl
def mL(rec2:TC->Option TC)(b:TC):Option TC:=bj (bk (decide ((b.length:Int)>0)) (ck .i64 ((b.length:Int)-1) (bB b ((b.length:Int)-1) fun c=>some (b,(c==0)))) (some (b,false))) fun a=>bk a.2 (ck .i64 ((a.1.length:Int)-1) (bb (0<=((a.1.length:Int)-1)) (bb (0<=((a.1.length:Int)-1).toNat) (bb (((a.1.length:Int)-1).toNat<=a.1.length) (rec2 (aaE (((a.1.length:Int)-1).toNat-0) (aaV 0 a.1))))))) (some a.1)
def mS:Nat->TC->Option TC:=aN [tF] (mL)
def bG(N:Nat)(a:TC):Option TC:=mS N a
abbrev Z8(N:Nat):bx:=⟨217,⟨[(0,dd tF)],[],[]⟩,[⟨[(0,dd tF)],[],[]⟩],bG N⟩
theorem fZ(N:Nat):aF Tryz.prog (Z8 N):=xf N tn [] [⟨4,true,⟨[(0,dd tF),(14,dd .b)],[],[]⟩⟩,⟨2,false,⟨[(0,dd tF)],[],[]⟩⟩] 0 Tryz.func217 rfl (by kernel_rfl) fun a=>by kernel_rfl
def vX(rec2:bw->Int->TC->Option TC)(h:bw->Int->Int->TC->Int->Int->TC->Option TC)(e:bw)(d b:Int)(f:TC)(g c:Int)(a:TC):Option TC:=bk (decide (c<g)) (bB f c fun i=>ck .i64 (c+1) (bf a.length a (h e d (bits .or .u32 (δ .u32 (b*(2^8))) (δ .u32 i)) f g (c+1) a))) (bf a.length a (bb (((a.length+[b].length)*4)<=140737488355328) (ck .i64 (d-4) (bf ((a++[b]).length) (a++[b]) (rec2 e (d-4) (a++[b]))))))
def wB(rec2:bw->Int->TC->Option TC):Nat->bw->Int->Int->TC->Int->Int->TC->Option TC:=aN [.s,tC,tI,tH,tC,tC,tF] (vX rec2)
def wE(N:Nat)(rec2:bw->Int->TC->Option TC)(c:bw)(a:Int)(b:TC):Option TC:=bk (decide (a>0)) (ck .i64 (a-4) (bb (0<=a) (bb (0<=(Max.max 0 (a-4))) (bb ((Max.max 0 (a-4)).toNat<=a.toNat) (bb (a.toNat<=c.length) (bf b.length b (wB rec2 N c a 0 (bE (aaE (a.toNat-(Max.max 0 (a-4)).toNat) (aaV (Max.max 0 (a-4)).toNat c))) (((bE (aaE (a.toNat-(Max.max 0 (a-4)).toNat) (aaV (Max.max 0 (a-4)).toNat c))).length:Nat):Int) 0 b))))))) (bf b.length b (bj (bG N b) fun d=>some d))
def rD(N:Nat):Nat->bw->Int->TC->Option TC:=aN [.s,tC,tF] (wE N)
def eU(N:Nat)(a:bw):Option TC:=rD N N a (a.length:Int) ([]:TC)
abbrev aWi(N:Nat):bx:=⟨207,⟨[(0,dd .s)],[],[]⟩,[⟨[(0,dd tF)],[],[]⟩],eU N⟩
theorem sI(N:Nat):aF Tryz.prog (aWi N):=xf N (tc (fZ N) tn) [35] [⟨11,false,⟨[(0,dd .s),(3,.slw (.O 0) tI 0),(4,dd tC),(5,dd tI),(20,dd tH),(21,dd tC),(22,dd tC)],[],[some (.row true tI [])]⟩⟩,⟨4,false,⟨[(0,dd .s),(3,.slw (.O 0) tI 0),(4,dd tC)],[],[some (.row true tI [])]⟩⟩] 0 Tryz.func207 rfl (by kernel_rfl) fun a=>by kernel_rfl
def lY(N:Nat)(a:Int):Option Bool:=some (a !=a)
abbrev Ur(N:Nat):bx:=⟨168,⟨[(0,dd tC)],[],[]⟩,[⟨[(0,dd .b)],[],[]⟩],lY N⟩
theorem RD(N:Nat):aF Tryz.prog (Ur N):=xf N tn [] [] 0 Tryz.func168 rfl (by kernel_rfl) fun a=>by kernel_rfl
def cU(N:Nat)(a b:Int):Option Int:=bj (lY N a) fun d=>bj (lY N b) fun c=>bk d (bk c (some (0)) (some (-1))) (bk c (some (1)) (bk (decide (a<b)) (some (-1)) (bk (decide (a>b)) (some (1)) (some (0)))))
abbrev Yz(N:Nat):bx:=⟨142,⟨[(0,dd tC),(1,dd tC)],[],[]⟩,[⟨[(0,dd tC)],[],[]⟩],cU N⟩
theorem oE(N:Nat):aF Tryz.prog (Yz N):=xf N (tc (RD N) tn) [] [] 0 Tryz.func142 rfl (by kernel_rfl) fun a=>by kernel_rfl
def mE(N:Nat)(a:Int):Option Bool:=some (a !=a)
abbrev ZY(N:Nat):bx:=⟨228,⟨[(0,dd tI)],[],[]⟩,[⟨[(0,dd .b)],[],[]⟩],mE N⟩
theorem XD(N:Nat):aF Tryz.prog (ZY N):=xf N tn [] [] 0 Tryz.func228 rfl (by kernel_rfl) fun a=>by kernel_rfl
def kF(N:Nat)(a b:Int):Option Int:=bj (mE N a) fun d=>bj (mE N b) fun c=>bk d (bk c (some (0)) (some (-1))) (bk c (some (1)) (bk (decide (a<b)) (some (-1)) (bk (decide (a>b)) (some (1)) (some (0)))))
abbrev zU(N:Nat):bx:=⟨225,⟨[(0,dd tI),(1,dd tI)],[],[]⟩,[⟨[(0,dd tC)],[],[]⟩],kF N⟩
theorem Vc(N:Nat):aF Tryz.prog (zU N):=xf N (tc (XD N) tn) [] [] 0 Tryz.func225 rfl (by kernel_rfl) fun a=>by kernel_rfl
def jI(N:Nat)(rec4:TC->TC->Int->Option Int)(b c:TC)(a:Int):Option Int:=bk (decide (a≥0)) (bB b a fun e=>bB c a fun f=>bj (kF N e f) fun d=>bk (d !=0) (some d) (ck .i64 (a-1) (rec4 b c (a-1)))) (some (0))
def jH(N:Nat):Nat->TC->TC->Int->Option Int:=aN [tF,tF,tC] (jI N)
def cT(N:Nat)(a b:TC):Option Int:=bj (cU N (a.length:Int) (b.length:Int)) fun c=>bk (c !=0) (some c) (ck .i64 ((a.length:Int)-1) (jH N N a b ((a.length:Int)-1)))
abbrev VZ(N:Nat):bx:=⟨215,⟨[(0,dd tF),(1,dd tF)],[],[]⟩,[⟨[(0,dd tC)],[],[]⟩],cT N⟩
theorem lP(N:Nat):aF Tryz.prog (VZ N):=xf N (tc (oE N) (tc (Vc N) tn)) [] [⟨7,false,⟨[(0,dd tF),(1,dd tF),(6,dd tC)],[],[]⟩⟩] 0 Tryz.func215 rfl (by kernel_rfl) fun a=>by kernel_rfl
def lL(N:Nat)(rec3:TC->Int->Int->Int->TC->Option (TC×Int))(f:TC)(c d a:Int)(b:TC):Option (TC×Int):=bk (decide (a≥0)) (bB f a fun e=>bb ((δ .u64 c)≠0) (bb ((δ .u64 c)≠0) (bb (0<=a) (bb (a<(b.length:Int)) (cw b a.toNat fun h=>ck .i64 (a-1) (bf b.length (aaO b a.toNat (δ .u32 (δ .u64 (ac3 (bits .or .u64 (δ .u64 (d*(2^32))) (δ .u64 e)) (δ .u64 c))))) (rec3 f c (abf (bits .or .u64 (δ .u64 (d*(2^32))) (δ .u64 e)) (δ .u64 c)) (a-1) (aaO b a.toNat (δ .u32 (δ .u64 (ac3 (bits .or .u64 (δ .u64 (d*(2^32))) (δ .u64 e)) (δ .u64 c)))))))))))) (bf b.length b (bj (bG N b) fun g=>some (g,(δ .u32 d))))
def lI(N:Nat):Nat->TC->Int->Int->Int->TC->Option (TC×Int):=aN [tF,tI,tK,tC,tF] (lL N)
def gO(N:Nat)(a:TC)(b:Int):Option (TC×Int):=bb (0<=(a.length:Int)) (bb ((a.length:Int)<=(a.length:Int)) (bb ((a.length:Int).toNat<=9223372036854775807) (bb (((a.length:Int).toNat*4)<=281474976710656) (ck .i64 ((a.length:Int)-1) (bf ((a.length:Int).toNat) (aag (a.length:Int).toNat 0:TC) (lI N N a b 0 ((a.length:Int)-1) (aag (a.length:Int).toNat 0:TC)))))))
abbrev WG(N:Nat):bx:=⟨216,⟨[(0,dd tF),(1,dd tI)],[],[]⟩,[⟨[(0,dd tF),(1,dd tI)],[],[]⟩],gO N⟩
theorem tP(N:Nat):aF Tryz.prog (WG N):=xf N (tc (fZ N) tn) [] [⟨4,false,⟨[(0,dd tF),(1,dd tI),(6,.slw (.O 0) tI 0),(7,dd tK),(8,dd tC)],[],[some (.row true tI [])]⟩⟩] 0 Tryz.func216 rfl (by kernel_rfl) fun a=>by kernel_rfl
def fB(N:Nat)(a:TC)(b:Int):Option Int:=bk (decide (b<(a.length:Int))) (bB a b fun c=>some (δ .u64 c)) (some (0))
abbrev XF(N:Nat):bx:=⟨226,⟨[(0,dd tF),(1,dd tC)],[],[]⟩,[⟨[(0,dd tK)],[],[]⟩],fB N⟩
theorem sE(N:Nat):aF Tryz.prog (XF N):=xf N tn [] [] 0 Tryz.func226 rfl (by kernel_rfl) fun a=>by kernel_rfl
def fW(N:Nat)(rec3:TC->TC->Int->Int->TC->Option TC)(m:TC->Int->Int->Int->Int->TC->Int->Int->TC->Option TC)(c:TC)(h i:Int)(d e:Int)(j:TC)(k l:Int)(b:TC):Option TC:=bj (bk (decide (e<(c.length:Int))) (bf b.length b (some (c,h,i,d,e,j,k,l,true,b))) (bf b.length b (some (c,h,i,d,e,j,k,l,decide (d>0),b)))) fun a=>bk a.2.2.2.2.2.2.2.2.1 (bj (fB N a.1 a.2.2.2.2.1) fun f=>ck .i64 (a.2.1+a.2.2.2.2.1) (bb (0<=(a.2.1+a.2.2.2.2.1)) (bb ((a.2.1+a.2.2.2.2.1)<(a.2.2.2.2.2.2.2.2.2.length:Int)) (cw a.2.2.2.2.2.2.2.2.2 ((a.2.1+a.2.2.2.2.1).toNat) fun g=>ck .i64 (a.2.1+a.2.2.2.2.1) (bb (0<=(a.2.1+a.2.2.2.2.1)) (bb ((a.2.1+a.2.2.2.2.1)<(a.2.2.2.2.2.2.2.2.2.length:Int)) (cw a.2.2.2.2.2.2.2.2.2 ((a.2.1+a.2.2.2.2.1).toNat) fun n=>ck .i64 (a.2.2.2.2.1+1) (bf a.2.2.2.2.2.2.2.2.2.length (aaO a.2.2.2.2.2.2.2.2.2 (a.2.1+a.2.2.2.2.1).toNat (δ .u32 (δ .u64 ((δ .u64 ((δ .u64 ((δ .u64 a.2.2.1)*f))+(δ .u64 g)))+a.2.2.2.1)))) (m a.1 a.2.1 a.2.2.1 ((δ .u64 ((δ .u64 ((δ .u64 ((δ .u64 a.2.2.1)*f))+(δ .u64 g)))+a.2.2.2.1))/(2^32)) (a.2.2.2.2.1+1) a.2.2.2.2.2.1 a.2.2.2.2.2.2.1 a.2.2.2.2.2.2.2.1 (aaO a.2.2.2.2.2.2.2.2.2 (a.2.1+a.2.2.2.2.1).toNat (δ .u32 (δ .u64 ((δ .u64 ((δ .u64 ((δ .u64 a.2.2.1)*f))+(δ .u64 g)))+a.2.2.2.1))))))))))))) (ck .i64 (a.2.2.2.2.2.2.2.1+1) (bf a.2.2.2.2.2.2.2.2.2.length a.2.2.2.2.2.2.2.2.2 (rec3 a.1 a.2.2.2.2.2.1 a.2.2.2.2.2.2.1 (a.2.2.2.2.2.2.2.1+1) a.2.2.2.2.2.2.2.2.2)))
def bY(N:Nat)(rec3:TC->TC->Int->Int->TC->Option TC):Nat->TC->Int->Int->Int->Int->TC->Int->Int->TC->Option TC:=aN [tF,tC,tI,tK,tC,tF,tC,tC,tF] (fW N rec3)
def lE(N:Nat)(rec3:TC->TC->Int->Int->TC->Option TC)(e c:TC)(d b:Int)(a:TC):Option TC:=bk (decide (b<d)) (bB c b fun f=>bf a.length a (bY N rec3 N e b f 0 0 c d b a)) (bf a.length a (bj (bG N a) fun g=>some g))
def fU(N:Nat):Nat->TC->TC->Int->Int->TC->Option TC:=aN [tF,tF,tC,tC,tF] (lE N)
def eA(N:Nat)(a b:TC):Option TC:=ck .i64 ((a.length:Int)+(b.length:Int)) (ck .i64 (((a.length:Int)+(b.length:Int))+1) (bb (0<=(((a.length:Int)+(b.length:Int))+1)) (bb ((((a.length:Int)+(b.length:Int))+1)<=(((a.length:Int)+(b.length:Int))+1)) (bb ((((a.length:Int)+(b.length:Int))+1).toNat<=9223372036854775807) (bb (((((a.length:Int)+(b.length:Int))+1).toNat*4)<=281474976710656) (bf ((((a.length:Int)+(b.length:Int))+1).toNat) (aag (((a.length:Int)+(b.length:Int))+1).toNat 0:TC) (fU N N b a (a.length:Int) 0 (aag (((a.length:Int)+(b.length:Int))+1).toNat 0:TC))))))))
abbrev Th(N:Nat):bx:=⟨220,⟨[(0,dd tF),(1,dd tF)],[],[]⟩,[⟨[(0,dd tF)],[],[]⟩],eA N⟩
theorem oC(N:Nat):aF Tryz.prog (Th N):=xf N (tc (sE N) (tc (fZ N) tn)) [] [⟨13,true,⟨[(1,dd tF),(5,.slw (.O 0) tI 0),(6,dd tC),(7,dd tI),(8,dd tK),(9,dd tC),(18,dd tF),(19,dd tC),(20,dd tC),(32,dd .b)],[],[some (.row true tI [])]⟩⟩,⟨11,false,⟨[(1,dd tF),(5,.slw (.O 0) tI 0),(6,dd tC),(7,dd tI),(8,dd tK),(9,dd tC),(18,dd tF),(19,dd tC),(20,dd tC)],[],[some (.row true tI [])]⟩⟩,⟨4,false,⟨[(1,dd tF),(5,.slw (.O 0) tI 0),(18,dd tF),(19,dd tC),(20,dd tC)],[],[some (.row true tI [])]⟩⟩] 0 Tryz.func220 rfl (by kernel_rfl) fun a=>by kernel_rfl
def cL(N:Nat)(b:TC)(a:Int):Option TC:=bk (decide (a<0)) (ck .i64 (-a) (bb (0<=(-a)) (bb ((-a)<=(((abQ .u32):Nat):Int)) (bj (gO N b (δ .u32 (1*(2^(-a).toNat)))) fun c=>some c.1)))) (bb (0<=a) (bb (a<=(((abQ .u32):Nat):Int)) (bj (eA N b [(δ .u32 (1*(2^a.toNat)))]) fun d=>some d)))
abbrev Sj(N:Nat):bx:=⟨218,⟨[(0,dd tF),(1,dd tC)],[],[]⟩,[⟨[(0,dd tF)],[],[]⟩],cL N⟩
theorem Zw(N:Nat):aF Tryz.prog (Sj N):=xf N (tc (tP N) (tc (oC N) tn)) [] [] 0 Tryz.func218 rfl (by kernel_rfl) fun a=>by kernel_rfl
def bV(N:Nat)(a:TC):Option TC:=bk (decide (0<a.length)) (bb ((a.length*4)<=140737488355328) (bf a.length a (some a))) (EM (some ([]:TC)) (bb ((a.length*4)<=140737488355328) (bf a.length a (some a))))
abbrev qY(N:Nat):bx:=⟨219,⟨[(0,dd tF)],[],[]⟩,[⟨[(0,.slw (.O 0) tI 0)],[],[some (.row true tI [])]⟩],bV N⟩
theorem qS(N:Nat):aF Tryz.prog (qY N):=xf N tn [7] [] 0 Tryz.func219 rfl (by kernel_rfl) fun a=>by kernel_rfl
def lN(N:Nat)(rec3:TC->TC->Int->Int->Int->TC->Option TC)(f g:TC)(b h c:Int)(a:TC):Option TC:=bk (decide (c<h)) (bB f c fun d=>bj (fB N g c) fun e=>bf a.length a (bb (((a.length+[(δ .u32 (δ .u64 ((δ .u64 ((δ .u64 d)-e))-b)))].length)*4)<=140737488355328) (ck .i64 (c+1) (bf ((a++[(δ .u32 (δ .u64 ((δ .u64 ((δ .u64 d)-e))-b)))]).length) (a++[(δ .u32 (δ .u64 ((δ .u64 ((δ .u64 d)-e))-b)))]) (rec3 f g ((δ .u64 ((δ .u64 ((δ .u64 d)-e))-b))/(2^63)) h (c+1) (a++[(δ .u32 (δ .u64 ((δ .u64 ((δ .u64 d)-e))-b)))])))))) (bf a.length a (bj (bG N a) fun i=>some i))
def lH(N:Nat):Nat->TC->TC->Int->Int->Int->TC->Option TC:=aN [tF,tF,tK,tC,tC,tF] (lN N)
def fG(N:Nat)(a b:TC):Option TC:=lH N N a b 0 (a.length:Int) 0 ([]:TC)
abbrev aFq(N:Nat):bx:=⟨221,⟨[(0,dd tF),(1,dd tF)],[],[]⟩,[⟨[(0,dd tF)],[],[]⟩],fG N⟩
theorem sY(N:Nat):aF Tryz.prog (aFq N):=xf N (tc (sE N) (tc (fZ N) tn)) [29] [⟨5,false,⟨[(0,dd tF),(1,dd tF),(5,.slw (.O 0) tI 0),(6,dd tK),(10,dd tC),(11,dd tC)],[],[some (.row true tI [])]⟩⟩] 0 Tryz.func221 rfl (by kernel_rfl) fun a=>by kernel_rfl
def oP(N:Nat)(n:Int->TC->Int->Int->Int->Int->Int->TC->TC->TC->Option TQ)(k:Int)(f:TC)(l e:Int)(g a b:Int)(h c d:TC):Option TQ:=bb ((a.toNat+b.toNat)<=c.length) (bj (bV N (aaE b.toNat (aaV a.toNat c))) fun i=>bf i.length i (bj (bG N i) fun o=>bj (cT N o h) fun p=>bk (decide (p<0)) (bj (fG N h f) fun q=>bf c.length c (bf d.length d (n k f l e (δ .u64 (g-1)) (a.toNat:Int) (b.toNat:Int) q c d))) (bb ((a.toNat+b.toNat)<=c.length) (bj (bV N (aaE b.toNat (aaV a.toNat c))) fun j=>bf j.length j (bj (bG N j) fun r=>bj (fG N r h) fun m=>bb ((a.toNat+b.toNat)<=c.length) (bb ((a.toNat+b.toNat)<=(((aaE a.toNat c)++(aag b.toNat 0:TC))++(aaV (a.toNat+b.toNat) c)).length) (bb (0<=e) (bb (e<(d.length:Int)) (cw d e.toNat fun s=>bf c.length (ye (((aaE a.toNat c)++(aag b.toNat 0:TC))++(aaV (a.toNat+b.toNat) c)) a.toNat b.toNat m) (bf d.length (aaO d e.toNat (δ .u32 g)) (some (k,f,l,e,(ye (((aaE a.toNat c)++(aag b.toNat 0:TC))++(aaV (a.toNat+b.toNat) c)) a.toNat b.toNat m),(aaO d e.toNat (δ .u32 g))))))))))))))
def kP(N:Nat):Nat->Int->TC->Int->Int->Int->Int->Int->TC->TC->TC->Option TQ:=aN [tC,tF,tC,tC,tK,tC,tC,tF,tF,tF] (oP N)
def oW(N:Nat)(j:Int->TC->Int->Int->Int->Int->TC->TC->Option TQ)(i:Int)(g:TC)(b d:Int)(h f:Int)(c e:TC):Option TQ:=bj (bk (decide (f<4294967296)) (ck .i64 (b-2) (bB g (b-2) fun k=>ck .i64 (d+b) (ck .i64 ((d+b)-2) (bb (0<=((d+b)-2)) (bb (((d+b)-2)<(c.length:Int)) (cw c (((d+b)-2).toNat) fun l=>bf c.length c (bf e.length e (some (i,g,b,d,h,f,decide ((δ .u64 (h*(δ .u64 k)))>(bits .or .u64 (δ .u64 (f*(2^32))) (δ .u64 l))),c,e))))))))) (bf c.length c (bf e.length e (some (i,g,b,d,h,f,false,c,e))))) fun a=>bk a.2.2.2.2.2.2.1 (ck .i64 (a.2.2.1-1) (bB a.2.1 (a.2.2.1-1) fun m=>bf a.2.2.2.2.2.2.2.1.length a.2.2.2.2.2.2.2.1 (bf a.2.2.2.2.2.2.2.2.length a.2.2.2.2.2.2.2.2 (j a.1 a.2.1 a.2.2.1 a.2.2.2.1 (δ .u64 (a.2.2.2.2.1-1)) (δ .u64 (a.2.2.2.2.2.1+(δ .u64 m))) a.2.2.2.2.2.2.2.1 a.2.2.2.2.2.2.2.2)))) (bk (a.2.2.2.2.1==0) (bf a.2.2.2.2.2.2.2.1.length a.2.2.2.2.2.2.2.1 (bf a.2.2.2.2.2.2.2.2.length a.2.2.2.2.2.2.2.2 (some (a.1,a.2.1,a.2.2.1,a.2.2.2.1,a.2.2.2.2.2.2.2.1,a.2.2.2.2.2.2.2.2)))) (ck .i64 (a.2.2.2.1+a.2.2.1) (ck .i64 ((a.2.2.2.1+a.2.2.1)+1) (bb (0<=((a.2.2.2.1+a.2.2.1)+1)) (bb (0<=a.2.2.2.1) (bb (a.2.2.2.1.toNat<=((a.2.2.2.1+a.2.2.1)+1).toNat) (bb (((a.2.2.2.1+a.2.2.1)+1).toNat<=a.2.2.2.2.2.2.2.1.length) (bj (eA N a.2.1 [(δ .u32 a.2.2.2.2.1)]) fun n=>bf a.2.2.2.2.2.2.2.1.length a.2.2.2.2.2.2.2.1 (bf a.2.2.2.2.2.2.2.2.length a.2.2.2.2.2.2.2.2 (kP N N a.1 a.2.1 a.2.2.1 a.2.2.2.1 a.2.2.2.2.1 (a.2.2.2.1.toNat:Int) (((((a.2.2.2.1+a.2.2.1)+1).toNat-a.2.2.2.1.toNat):Nat):Int) n a.2.2.2.2.2.2.2.1 a.2.2.2.2.2.2.2.2))))))))))
def oR(N:Nat):Nat->Int->TC->Int->Int->Int->Int->TC->TC->Option TQ:=aN [tC,tF,tC,tC,tK,tK,tF,tF] (oW N)
def oY(N:Nat)(k:Int->TC->Int->Int->TC->TC->Option (TC×TC))(f:Int)(g:TC)(a b:Int)(d e:TC):Option (TC×TC):=bk (decide (b≥0)) (bj (ck .i64 (b+a) (bb (0<=(b+a)) (bb ((b+a)<(d.length:Int)) (cw d ((b+a).toNat) fun h=>ck .i64 (b+a) (ck .i64 ((b+a)-1) (bb (0<=((b+a)-1)) (bb (((b+a)-1)<(d.length:Int)) (cw d (((b+a)-1).toNat) fun i=>ck .i64 (a-1) (bB g (a-1) fun j=>bb ((δ .u64 j)≠0) (ck .i64 (a-1) (bB g (a-1) fun l=>bf d.length d (bf e.length e (oR N N f g a b (Min.min (δ .u64 (ac3 (bits .or .u64 (δ .u64 ((δ .u64 h)*(2^32))) (δ .u64 i)) (δ .u64 j))) 4294967295) (δ .u64 ((bits .or .u64 (δ .u64 ((δ .u64 h)*(2^32))) (δ .u64 i))-(δ .u64 ((Min.min (δ .u64 (ac3 (bits .or .u64 (δ .u64 ((δ .u64 h)*(2^32))) (δ .u64 i)) (δ .u64 j))) 4294967295)*(δ .u64 l))))) d e))))))))))))) fun c=>ck .i64 (c.2.2.2.1-1) (bf c.2.2.2.2.1.length c.2.2.2.2.1 (bf c.2.2.2.2.2.length c.2.2.2.2.2 (k c.1 c.2.1 c.2.2.1 (c.2.2.2.1-1) c.2.2.2.2.1 c.2.2.2.2.2)))) (bf e.length e (bj (bG N e) fun m=>bf d.length d (bj (bG N d) fun n=>ck .i64 (-f) (bj (cL N n (-f)) fun o=>some (m,o)))))
def pB(N:Nat):Nat->Int->TC->Int->Int->TC->TC->Option (TC×TC):=aN [tC,tF,tC,tC,tF,tF] (oY N)
def oT(N:Nat)(f:TC->TC->Int->Option (TC×TC))(b e:TC)(d:Int):Option (TC×TC):=ck .i64 ((e.length:Int)-1) (bB e ((e.length:Int)-1) fun g=>bb (0<=d) (bb (d<=(((abQ .u32):Nat):Int)) (bk (decide ((δ .u32 (g*(2^d.toNat)))<2147483648)) (ck .i64 (d+1) (f b e (d+1))) (bj (cL N e d) fun a=>bj (cL N b d) fun h=>bj (bV N h) fun c=>bf c.length c (bb (((c.length+[0,0].length)*4)<=140737488355328) (ck .i64 ((b.length:Int)-(a.length:Int)) (ck .i64 (((b.length:Int)-(a.length:Int))+2) (bb (0<=(((b.length:Int)-(a.length:Int))+2)) (bb ((((b.length:Int)-(a.length:Int))+2)<=(((b.length:Int)-(a.length:Int))+2)) (bb ((((b.length:Int)-(a.length:Int))+2).toNat<=9223372036854775807) (bb (((((b.length:Int)-(a.length:Int))+2).toNat*4)<=281474976710656) (ck .i64 ((((c++[0,0]).length:Nat):Int)-(a.length:Int)) (ck .i64 (((((c++[0,0]).length:Nat):Int)-(a.length:Int))-1) (bf ((c++[0,0]).length) (c++[0,0]) (bf ((((b.length:Int)-(a.length:Int))+2).toNat) (aag (((b.length:Int)-(a.length:Int))+2).toNat 0:TC) (pB N N d a (a.length:Int) (((((c++[0,0]).length:Nat):Int)-(a.length:Int))-1) (c++[0,0]) (aag (((b.length:Int)-(a.length:Int))+2).toNat 0:TC)))))))))))))))))
def oO(N:Nat):Nat->TC->TC->Int->Option (TC×TC):=aN [tF,tF,tC] (oT N)
def nX(N:Nat)(a b:TC):Option (TC×TC):=bj (cT N a b) fun d=>bk (decide (d<0)) (some (([]:TC),a)) (bk ((b.length:Int)==1) (bB b (0) fun e=>bj (gO N a e) fun c=>bj (bG N [c.2]) fun f=>some (c.1,f)) (oO N N a b 0))
abbrev S4(N:Nat):bx:=⟨206,⟨[(0,dd tF),(1,dd tF)],[],[]⟩,[⟨[(0,dd tF),(1,dd tF)],[],[]⟩],nX N⟩
theorem aLi(N:Nat):aF Tryz.prog (S4 N):=xf N (tc (lP N) (tc (tP N) (tc (fZ N) (tc (Zw N) (tc (qS N) (tc (oC N) (tc (sY N) tn))))))) [59] [⟨23,true,⟨[(8,dd tC),(9,dd tF),(10,.slw (.O 0) tI 0),(11,dd tC),(12,.slw (.O 1) tI 0),(13,dd tC)],[],[some (.row true tI []),some (.row true tI [])]⟩⟩,⟨37,false,⟨[(8,dd tC),(9,dd tF),(10,.slw (.O 0) tI 0),(11,dd tC),(12,.slw (.O 1) tI 0),(13,dd tC),(15,dd tK),(17,.sl (.O 0) tI 0 0),(18,dd tF)],[],[some (.row true tI []),some (.row true tI [])]⟩⟩,⟨30,true,⟨[(8,dd tC),(9,dd tF),(10,.slw (.O 0) tI 0),(11,dd tC),(12,.slw (.O 1) tI 0),(13,dd tC),(15,dd tK),(16,dd tK),(136,dd .b)],[],[some (.row true tI []),some (.row true tI [])]⟩⟩,⟨28,false,⟨[(8,dd tC),(9,dd tF),(10,.slw (.O 0) tI 0),(11,dd tC),(12,.slw (.O 1) tI 0),(13,dd tC),(15,dd tK),(16,dd tK)],[],[some (.row true tI []),some (.row true tI [])]⟩⟩,⟨20,false,⟨[(8,dd tC),(9,dd tF),(10,.slw (.O 0) tI 0),(11,dd tC),(12,.slw (.O 1) tI 0),(13,dd tC)],[],[some (.row true tI []),some (.row true tI [])]⟩⟩,⟨10,false,⟨[(0,dd tF),(1,dd tF),(8,dd tC)],[],[]⟩⟩] 0 Tryz.func206 rfl (by kernel_rfl) fun a=>by kernel_rfl
def pP(N:Nat)(cx:Nat->TC->TC->Option TC)(b a:TC):Option TC:=bk ((a.length:Int)==0) (some b) (bj (nX N b a) fun c=>bj (cx N a c.2) fun d=>some d)
def cx:Nat->TC->TC->Option TC|0=>fun _ _=>none|N+1=>pP N fun _=>cx N
abbrev UY(N:Nat):bx:=⟨205,⟨[(0,dd tF),(1,dd tF),(2,.ptr (.B 0) 0)],[some (.box [.clo 205 [.ptr (.B 0) 0]])],[]⟩,[⟨[(0,dd tF)],[some (.box [.clo 205 [.ptr (.B 0) 0]])],[]⟩],cx N⟩
theorem aS8(N:Nat):aF Tryz.prog (UY N):=by induction N with|zero=>(intro _ v r h;cases(show none=some r from h))|succ N ih=>exact xf N (tc (aLi N) (tc ih tn)) [21,5000205] [] 1 Tryz.func205 rfl (by kernel_rfl) fun a=>by kernel_rfl
def fP(rec2:Int->Int->TC->Option TC)(a c:Int)(b:TC):Option TC:=bk (decide (a<c)) (bb (0<=c) (bb (c<(b.length:Int)) (cw b c.toNat fun d=>bb (0<=a) (bb (a<(b.length:Int)) (cw b a.toNat fun e=>bb (0<=a) (bb (a<(b.length:Int)) (cw b a.toNat fun f=>bb (0<=c) (bb (c<(b.length:Int)) (cw (aaO b a.toNat d) c.toNat fun g=>ck .i64 (a+1) (ck .i64 (c-1) (bf b.length (aaO (aaO b a.toNat d) c.toNat e) (rec2 (a+1) (c-1) (aaO (aaO b a.toNat d) c.toNat e))))))))))))) (some b)
def fQ:Nat->Int->Int->TC->Option TC:=aN [tC,tC,tH] (fP)
def eB(N:Nat)(a:TC):Option TC:=ck .i64 ((a.length:Int)-1) (bf a.length a (fQ N 0 ((a.length:Int)-1) a))
abbrev rN(N:Nat):bx:=⟨222,⟨[(0,.slw (.B 0) (.i .u8) 0)],[some (.row true (.i .u8) [])],[]⟩,[⟨[],[some (.row true (.i .u8) [])],[]⟩],eB N⟩
theorem sH(N:Nat):aF Tryz.prog (rN N):=xf N tn [] [⟨1,false,⟨[(0,.slw (.B 0) (.i .u8) 0),(2,dd tC),(3,dd tC)],[some (.row true (.i .u8) [])],[]⟩⟩] 1 Tryz.func222 rfl (by kernel_rfl) fun a=>by kernel_rfl
def gU(rec3:bw->Int->Option bw)(b:bw)(c:Int):Option bw:=bj (bk (decide ((b.length:Int)>0)) (bB b (0) fun d=>some (b,c,((d.toNat:Int)==c))) (some (b,c,false))) fun a=>bk a.2.2 (bb (1<=a.1.length) (bb (a.1.length<=a.1.length) (rec3 (aaE (a.1.length-1) (aaV 1 a.1)) a.2.1))) (some a.1)
def cX:Nat->bw->Int->Option bw:=aN [.s,(.i .u8)] (gU)
def iY(N:Nat)(a:bw)(b:Int):Option bw:=cX N a b
abbrev wX(N:Nat):bx:=⟨229,⟨[(0,dd .s),(1,dd (.i .u8))],[],[]⟩,[⟨[(0,dd .s)],[],[]⟩],iY N⟩
theorem wF(N:Nat):aF Tryz.prog (wX N):=xf N tn [] [⟨4,true,⟨[(0,dd .s),(1,dd (.i .u8)),(13,dd .b)],[],[]⟩⟩,⟨2,false,⟨[(0,dd .s),(1,dd (.i .u8))],[],[]⟩⟩] 0 Tryz.func229 rfl (by kernel_rfl) fun a=>by kernel_rfl
def nT(N:Nat)(a:bw):Option Unit:=none
abbrev wU(N:Nat):bx:=⟨230,⟨[(0,dd .s)],[],[]⟩,[],nT N⟩
theorem wC(N:Nat):aF Tryz.prog (wU N):=by intro _ v r h;cases(show none=some r from h)
def mR(N:Nat)(c d:bw):Option bw:=bj (bk (c==([]:bw)) (some (c,d,true)) (some (c,d,(d==([]:bw))))) fun a=>bk a.2.2 (some a.1) (bj (bk ((a.2.1.length:Int)==1) (bB a.2.1 (0) fun e=>some (a.1,a.2.1,decide ((e.toNat:Int)<128))) (some (a.1,a.2.1,false))) fun b=>bk b.2.2 (bB b.2.1 (0) fun f=>bj (iY N b.1 (f.toNat:Int)) fun g=>some g) (bj (nT N b.2.1) fun h=>none))
abbrev WU(N:Nat):bx:=⟨227,⟨[(0,dd .s),(1,dd .s)],[],[]⟩,[⟨[(0,dd .s)],[],[]⟩],mR N⟩
theorem Ym(N:Nat):aF Tryz.prog (WU N):=xf N (tc (wF N) (tc (wC N) tn)) [] [⟨5,true,⟨[(0,dd .s),(1,dd .s),(21,dd .b)],[],[]⟩⟩,⟨2,true,⟨[(0,dd .s),(1,dd .s),(12,dd .b)],[],[]⟩⟩] 0 Tryz.func227 rfl (by kernel_rfl) fun a=>by kernel_rfl
def tU(N:Nat)(a:bw):Option bw:=bj (mR N a ([0]:bw)) fun b=>some b
abbrev T6(N:Nat):bx:=⟨223,⟨[(0,dd .s)],[],[]⟩,[⟨[(0,dd .s)],[],[]⟩],tU N⟩
theorem Uk(N:Nat):aF Tryz.prog (T6 N):=xf N (tc (Ym N) tn) [] [] 0 Tryz.func223 rfl (by kernel_rfl) fun a=>by kernel_rfl
def mG(N:Nat)(rec2:TC->Int->Int->TC->Option bw)(d:TC)(e c:Int)(b:TC):Option bw:=bk (decide (c<e)) (bB d c fun a=>bf b.length b (bb (((b.length+[(δ .u8 a),(δ .u8 (a/(2^8))),(δ .u8 (a/(2^16))),(δ .u8 (a/(2^24)))].length)*1)<=140737488355328) (ck .i64 (c+1) (bf ((b++[(δ .u8 a),(δ .u8 (a/(2^8))),(δ .u8 (a/(2^16))),(δ .u8 (a/(2^24)))]).length) (b++[(δ .u8 a),(δ .u8 (a/(2^8))),(δ .u8 (a/(2^16))),(δ .u8 (a/(2^24)))]) (rec2 d e (c+1) (b++[(δ .u8 a),(δ .u8 (a/(2^8))),(δ .u8 (a/(2^16))),(δ .u8 (a/(2^24)))])))))) (bf b.length b (bj (eB N b) fun f=>bf b.length f (bj (tU N (bA f)) fun g=>some g)))
def mK(N:Nat):Nat->TC->Int->Int->TC->Option bw:=aN [tF,tC,tC,tH] (mG N)
def eW(N:Nat)(a:TC):Option bw:=mK N N a (a.length:Int) 0 ([]:TC)
abbrev aGg(N:Nat):bx:=⟨208,⟨[(0,dd tF)],[],[]⟩,[⟨[(0,dd .s)],[],[]⟩],eW N⟩
theorem kO(N:Nat):aF Tryz.prog (aGg N):=xf N (tc (sH N) (tc (Uk N) tn)) [5000222,25] [⟨4,false,⟨[(3,.slw (.O 0) (.i .u8) 0),(6,dd tF),(7,dd tC),(8,dd tC)],[],[some (.row true (.i .u8) [])]⟩⟩] 0 Tryz.func208 rfl (by kernel_rfl) fun a=>by kernel_rfl
def D5(N:Nat)(a b:bw):Option bw:=bj (eU N a) fun c=>bj (eU N b) fun d=>bj (cx N c d) fun e=>bj (eW N e) fun f=>some f
abbrev bB1(N:Nat):bx:=⟨196,⟨[(0,dd .s),(1,dd .s)],[],[]⟩,[⟨[(0,dd .s)],[],[]⟩],D5 N⟩
theorem WX(N:Nat):aF Tryz.prog (bB1 N):=xf N (tc (sI N) (tc (aS8 N) (tc (kO N) tn))) [12,5000205] [] 0 Tryz.func196 rfl (by kernel_rfl) fun a=>by kernel_rfl
def mZ(N:Nat)(a:TL):Option Bool:=bk (mF [2,2] (a.1==false) (mF [2] (a.2.1==([]:bw)) (mF ([]:(List Nat)) (a.2.2==([]:bw)) true))) (some true) (bj (bk (!(a.2.1==([]:bw))) (bk (!(a.2.2==([]:bw))) (bj (pN N a.2.1) fun b=>bk b (bj (pN N a.2.2) fun c=>bk c (bj (D5 N a.2.1 a.2.2) fun d=>some (d==([1]:bw))) (some false)) (some false)) (some false)) (some false)) fun e=>some e)
abbrev aS6(N:Nat):bx:=⟨186,⟨[(0,dd tJ)],[],[]⟩,[⟨[(0,dd .b)],[],[]⟩],mZ N⟩
theorem Lk(N:Nat):aF Tryz.prog (aS6 N):=xf N (tc (YH N) (tc (WX N) tn)) [] [⟨4,true,⟨[(2,dd .b)],[],[]⟩⟩] 0 Tryz.func186 rfl (by kernel_rfl) fun a=>by kernel_rfl
def yW(N:Nat)(a:TL):Option TL:=bj (bk (a.2.1==([]:bw)) (some (true,a.1,a.2.1,a.2.2,false,([]:bw),([]:bw))) (bj (mZ N a) fun c=>some ((!c),a.1,a.2.1,a.2.2,false,([]:bw),([]:bw)))) fun b=>bk b.1 (some (false,(([]:bw),([1]:bw)))) (some (b.2.1,(b.2.2.1,b.2.2.2.1)))
abbrev Sq(N:Nat):bx:=⟨187,⟨[(0,dd tJ)],[],[]⟩,[⟨[(0,dd tJ)],[],[]⟩],yW N⟩
theorem Vu(N:Nat):aF Tryz.prog (Sq N):=xf N (tc (Lk N) tn) [] [⟨2,true,⟨[(1,.ptr (.O 0) 0),(2,.ptr (.O 1) 0),(10,dd .b)],[],[some (.box [dd .b,dd .s,dd .s]),some (.box [dd .b,dd .s,dd .s])]⟩⟩] 0 Tryz.func187 rfl (by kernel_rfl) fun a=>by kernel_rfl
def rE(N:Nat)(a b:bw):Option bw:=bj (eU N a) fun c=>bj (eU N b) fun d=>bj (eA N c d) fun e=>bj (eW N e) fun f=>some f
abbrev U3(N:Nat):bx:=⟨209,⟨[(0,dd .s),(1,dd .s)],[],[]⟩,[⟨[(0,dd .s)],[],[]⟩],rE N⟩
theorem Y5(N:Nat):aF Tryz.prog (U3 N):=xf N (tc (sI N) (tc (oC N) (tc (kO N) tn))) [] [] 0 Tryz.func209 rfl (by kernel_rfl) fun a=>by kernel_rfl
def mI(N:Nat)(rec3:TC->TC->Int->Int->Int->TC->Option TC)(f g:TC)(b h c:Int)(a:TC):Option TC:=bk (decide (c<h)) (bj (fB N f c) fun d=>bj (fB N g c) fun e=>bf a.length a (bb (((a.length+[(δ .u32 (δ .u64 ((δ .u64 (d+e))+b)))].length)*4)<=140737488355328) (ck .i64 (c+1) (bf ((a++[(δ .u32 (δ .u64 ((δ .u64 (d+e))+b)))]).length) (a++[(δ .u32 (δ .u64 ((δ .u64 (d+e))+b)))]) (rec3 f g ((δ .u64 ((δ .u64 (d+e))+b))/(2^32)) h (c+1) (a++[(δ .u32 (δ .u64 ((δ .u64 (d+e))+b)))])))))) (bf a.length a (bj (bG N a) fun i=>some i))
def mQ(N:Nat):Nat->TC->TC->Int->Int->Int->TC->Option TC:=aN [tF,tF,tK,tC,tC,tF] (mI N)
def kL(N:Nat)(a b:TC):Option TC:=ck .i64 ((Max.max (a.length:Int) (b.length:Int))+1) (mQ N N a b 0 ((Max.max (a.length:Int) (b.length:Int))+1) 0 ([]:TC))
abbrev aG6(N:Nat):bx:=⟨224,⟨[(0,dd tF),(1,dd tF)],[],[]⟩,[⟨[(0,dd tF)],[],[]⟩],kL N⟩
theorem aF7(N:Nat):aF Tryz.prog (aG6 N):=xf N (tc (sE N) (tc (fZ N) tn)) [31] [⟨5,false,⟨[(0,dd tF),(1,dd tF),(5,.slw (.O 0) tI 0),(6,dd tK),(14,dd tC),(15,dd tC)],[],[some (.row true tI [])]⟩⟩] 0 Tryz.func224 rfl (by kernel_rfl) fun a=>by kernel_rfl
def DP(N:Nat)(a b:bw):Option bw:=bj (eU N a) fun c=>bj (eU N b) fun d=>bj (kL N c d) fun e=>bj (eW N e) fun f=>some f
abbrev bC1(N:Nat):bx:=⟨210,⟨[(0,dd .s),(1,dd .s)],[],[]⟩,[⟨[(0,dd .s)],[],[]⟩],DP N⟩
theorem bDf(N:Nat):aF Tryz.prog (bC1 N):=xf N (tc (sI N) (tc (aF7 N) (tc (kO N) tn))) [] [] 0 Tryz.func210 rfl (by kernel_rfl) fun a=>by kernel_rfl
def Ej(N:Nat)(a b:bw):Option Int:=bj (eU N a) fun c=>bj (eU N b) fun d=>bj (cT N c d) fun e=>some e
abbrev bBx(N:Nat):bx:=⟨211,⟨[(0,dd .s),(1,dd .s)],[],[]⟩,[⟨[(0,dd tC)],[],[]⟩],Ej N⟩
theorem bB2(N:Nat):aF Tryz.prog (bBx N):=xf N (tc (sI N) (tc (lP N) tn)) [] [] 0 Tryz.func211 rfl (by kernel_rfl) fun a=>by kernel_rfl
def D9(N:Nat)(c d:bw):Option (bw×Int):=bj (eU N c) fun a=>bj (eU N d) fun b=>bj (cT N a b) fun e=>bk (decide (e<0)) (some (([]:bw),3)) (bj (fG N a b) fun f=>bj (eW N f) fun g=>some (g,0))
abbrev bC6(N:Nat):bx:=⟨212,⟨[(0,dd .s),(1,dd .s)],[],[]⟩,[⟨[(0,dd .s),(1,dd tC)],[],[]⟩],D9 N⟩
theorem bBi(N:Nat):aF Tryz.prog (bC6 N):=xf N (tc (sI N) (tc (lP N) (tc (sY N) (tc (kO N) tn)))) [] [] 0 Tryz.func212 rfl (by kernel_rfl) fun a=>by kernel_rfl
def iC(N:Nat)(a b:TL):Option TL:=bj (rE N a.2.1 b.2.2) fun c=>bj (rE N b.2.1 a.2.2) fun d=>bj (rE N a.2.2 b.2.2) fun f=>bk (a.1==b.1) (bj (DP N c d) fun g=>some (a.1,(g,f))) (bj (bj (Ej N c d) fun h=>bk (decide (h<0)) (some (d,c,f,b.1,a.2.1,a.2.2,false,([]:bw),([]:bw))) (some (c,d,f,a.1,a.2.1,a.2.2,false,([]:bw),([]:bw)))) fun e=>bj (D9 N e.1 e.2.1) fun i=>some (e.2.2.2.1,(i.1,e.2.2.1)))
abbrev Wg(N:Nat):bx:=⟨197,⟨[(0,dd tJ),(1,dd tJ)],[],[]⟩,[⟨[(0,dd tJ)],[],[]⟩],iC N⟩
theorem aBh(N:Nat):aF Tryz.prog (Wg N):=xf N (tc (Y5 N) (tc (bDf N) (tc (bB2 N) (tc (bBi N) tn)))) [] [⟨5,true,⟨[(2,.ptr (.O 0) 0),(4,.ptr (.O 1) 0),(5,dd .s),(6,dd .s),(7,dd .s)],[],[some (.box [dd .b,dd .s,dd .s]),some (.box [dd .b,dd .s,dd .s])]⟩⟩] 0 Tryz.func197 rfl (by kernel_rfl) fun a=>by kernel_rfl
def lD(N:Nat)(a b:TL):Option TL:=bj (iC N a ((!b.1),b.2)) fun c=>some c
abbrev aBd(N:Nat):bx:=⟨188,⟨[(0,dd tJ),(1,dd tJ)],[],[]⟩,[⟨[(0,dd tJ)],[],[]⟩],lD N⟩
theorem VL(N:Nat):aF Tryz.prog (aBd N):=xf N (tc (aBh N) tn) [] [] 0 Tryz.func188 rfl (by kernel_rfl) fun a=>by kernel_rfl
def vU(N:Nat)(a b:TL):Option Int:=bj (yW N a) fun c=>bj (yW N b) fun d=>bj (lD N c d) fun e=>bk (e.2.1==([]:bw)) (some (0)) (bk e.1 (some (-1)) (some (1)))
abbrev ZU(N:Nat):bx:=⟨176,⟨[(0,dd tJ),(1,dd tJ)],[],[]⟩,[⟨[(0,dd tC)],[],[]⟩],vU N⟩
theorem Tc(N:Nat):aF Tryz.prog (ZU N):=xf N (tc (Vu N) (tc (VL N) tn)) [] [] 0 Tryz.func176 rfl (by kernel_rfl) fun a=>by kernel_rfl
def mD(N:Nat)(a:Int):Option Bool:=bj (bk (decide (a≥(-1000))) (some (decide (a<=2000))) (some false)) fun b=>some b
abbrev YF(N:Nat):bx:=⟨174,⟨[(0,dd tC)],[],[]⟩,[⟨[(0,dd .b)],[],[]⟩],mD N⟩
theorem aIh(N:Nat):aF Tryz.prog (YF N):=xf N tn [] [⟨1,true,⟨[(2,dd .b)],[],[]⟩⟩] 0 Tryz.func174 rfl (by kernel_rfl) fun a=>by kernel_rfl
def iN(N:Nat)(a:TL):Option Bool:=bj (bj (mZ N a) fun b=>bk b (some (!a.1)) (some false)) fun c=>some c
abbrev Vb(N:Nat):bx:=⟨175,⟨[(0,dd tJ)],[],[]⟩,[⟨[(0,dd .b)],[],[]⟩],iN N⟩
theorem aHa(N:Nat):aF Tryz.prog (Vb N):=xf N (tc (Lk N) tn) [] [⟨1,true,⟨[(2,dd .b)],[],[]⟩⟩] 0 Tryz.func175 rfl (by kernel_rfl) fun a=>by kernel_rfl
def mC(N:Nat)(rec3:TE->Int->Int->TE->Option Int)(e:TE)(f a:Int)(d:TE):Option Int:=bk (decide (a<f)) (bB e a fun b=>bj (mD N b.1) fun h=>bk (!h) (some (3)) (bj (iN N b.2) fun i=>bk (!i) (some (1)) (bj (bk (decide (a>0)) (ck .i64 (a-1) (bB d (a-1) fun j=>bk (decide (b.1<=j.1)) (some (e,f,a,true,d)) (ck .i64 (a-1) (bB d (a-1) fun g=>bj (vU N b.2 g.2) fun k=>some (e,f,a,decide (k<0),d))))) (some (e,f,a,false,d))) fun c=>bk c.2.2.2.1 (some (1)) (ck .i64 (c.2.2.1+1) (rec3 c.1 c.2.1 (c.2.2.1+1) c.2.2.2.2))))) (some (0))
def jC(N:Nat):Nat->TE->Int->Int->TE->Option Int:=aN [(.sl tE),tC,tC,(.sl tE)] (mC N)
def pH(N:Nat)(a:TE):Option Int:=bj (bk (decide ((a.length:Int)<1)) (some (true,a)) (some (decide ((a.length:Int)>16),a))) fun b=>bk b.1 (some (2)) (jC N N b.2 (b.2.length:Int) 0 b.2)
abbrev Xs(N:Nat):bx:=⟨150,⟨[(0,dd (.w (.sl tE)))],[],[]⟩,[⟨[(0,dd tC)],[],[]⟩],pH N⟩
theorem X0(N:Nat):aF Tryz.prog (Xs N):=xf N (tc (aIh N) (tc (aHa N) (tc (Tc N) tn))) [] [⟨16,true,⟨[(1,.ptr (.O 0) 0),(16,dd (.sl tE)),(17,dd tC),(18,dd tC),(33,dd .b)],[],[some (.box [dd (.sl tE)])]⟩⟩,⟨7,false,⟨[(1,.ptr (.O 0) 0),(16,dd (.sl tE)),(17,dd tC),(18,dd tC)],[],[some (.box [dd (.sl tE)])]⟩⟩,⟨3,true,⟨[(1,.ptr (.O 0) 0),(14,dd .b)],[],[some (.box [dd (.sl tE)])]⟩⟩] 0 Tryz.func150 rfl (by kernel_rfl) fun a=>by kernel_rfl
def eH(N:Nat)(a:TH):Option Bool:=bj (bk (decide (a.2.1<0)) (some (true,a.1,a.2.1,a.2.2.1,a.2.2.2.1,a.2.2.2.2.1,a.2.2.2.2.2.1,a.2.2.2.2.2.2.1,a.2.2.2.2.2.2.2)) (bk (decide (a.2.1≥40)) (some (true,a.1,a.2.1,a.2.2.1,a.2.2.2.1,a.2.2.2.2.1,a.2.2.2.2.2.1,a.2.2.2.2.2.2.1,a.2.2.2.2.2.2.2)) (bk (decide (a.2.2.1<0)) (some (true,a.1,a.2.1,a.2.2.1,a.2.2.2.1,a.2.2.2.2.1,a.2.2.2.2.2.1,a.2.2.2.2.2.2.1,a.2.2.2.2.2.2.2)) (bk (decide (a.2.2.1>1099511627776)) (some (true,a.1,a.2.1,a.2.2.1,a.2.2.2.1,a.2.2.2.2.1,a.2.2.2.2.2.1,a.2.2.2.2.2.2.1,a.2.2.2.2.2.2.2)) (bk (decide (a.2.2.2.1<0)) (some (true,a.1,a.2.1,a.2.2.1,a.2.2.2.1,a.2.2.2.2.1,a.2.2.2.2.2.1,a.2.2.2.2.2.2.1,a.2.2.2.2.2.2.2)) (bk (decide (a.2.2.2.1>14609)) (some (true,a.1,a.2.1,a.2.2.1,a.2.2.2.1,a.2.2.2.2.1,a.2.2.2.2.2.1,a.2.2.2.2.2.2.1,a.2.2.2.2.2.2.2)) (bk (decide (a.2.2.2.2.1<0)) (some (true,a.1,a.2.1,a.2.2.1,a.2.2.2.1,a.2.2.2.2.1,a.2.2.2.2.2.1,a.2.2.2.2.2.2.1,a.2.2.2.2.2.2.2)) (bk (decide (a.2.2.2.2.2.1<=a.2.2.2.2.1)) (some (true,a.1,a.2.1,a.2.2.1,a.2.2.2.1,a.2.2.2.2.1,a.2.2.2.2.2.1,a.2.2.2.2.2.2.1,a.2.2.2.2.2.2.2)) (some (decide (a.2.2.2.2.2.1>1402560),a.1,a.2.1,a.2.2.1,a.2.2.2.1,a.2.2.2.2.1,a.2.2.2.2.2.1,a.2.2.2.2.2.2.1,a.2.2.2.2.2.2.2)))))))))) fun b=>bk b.1 (some false) (bk (b.2.1==1) (bj (bk (b.2.2.2.2.2.2.2.1==0) (bj (pH N b.2.2.2.2.2.2.2.2) fun c=>some (c==0)) (some false)) fun d=>some d) (bj (bk ((dA (iZ (iZ ([]:(List TM)) 2 1000) 3 960) b.2.1).isSome) (bk ((b.2.2.2.2.2.2.2.2.length:Int)==0) (ck .i64 (-((dA (iZ (iZ ([]:(List TM)) 2 1000) 3 960) b.2.1).getD 0)) (bk (decide (b.2.2.2.2.2.2.2.1≥(-((dA (iZ (iZ ([]:(List TM)) 2 1000) 3 960) b.2.1).getD 0)))) (some (decide (b.2.2.2.2.2.2.2.1<=((dA (iZ (iZ ([]:(List TM)) 2 1000) 3 960) b.2.1).getD 0)))) (some false))) (some false)) (some false)) fun e=>some e))
abbrev Sy(N:Nat):bx:=⟨132,⟨[(0,dd tA)],[],[]⟩,[⟨[(0,dd .b)],[],[]⟩],eH N⟩
theorem aIk(N:Nat):aF Tryz.prog (Sy N):=xf N (tc (X0 N) tn) [] [⟨9,true,⟨[(2,dd .b)],[],[]⟩⟩,⟨6,true,⟨[(2,dd .b)],[],[]⟩⟩,⟨2,true,⟨[(1,.ptr (.O 0) 0),(50,dd .b)],[],[some (.box [dd tC,dd tC,dd tC,dd tC,dd tC,dd tC,dd tC,dd (.sl tE)])]⟩⟩] 0 Tryz.func132 rfl (by kernel_rfl) fun a=>by kernel_rfl
def fN(N:Nat)(a b:TH):Option Int:=bj (cU N a.2.1 b.2.1) fun c=>bk (c !=0) (some c) (bj (cU N a.2.2.1 b.2.2.1) fun d=>some d)
abbrev W4(N:Nat):bx:=⟨121,⟨[(0,dd tA),(1,dd tA)],[],[]⟩,[⟨[(0,dd tC)],[],[]⟩],fN N⟩
theorem qF(N:Nat):aF Tryz.prog (W4 N):=xf N (tc (oE N) tn) [] [] 0 Tryz.func121 rfl (by kernel_rfl) fun a=>by kernel_rfl
def gN(N:Nat)(rec2:TA->TA->Int->Int->Option Int)(e f:TA)(g b:Int):Option Int:=bk (decide (b<g)) (bB f b fun a=>bj (bj (eH N a) fun h=>bk (!h) (some (e,f,g,b,true)) (bk (decide (b>0)) (ck .i64 (b-1) (bB e (b-1) fun c=>bj (fN N c a) fun i=>some (e,f,g,b,decide (i≥0)))) (some (e,f,g,b,false)))) fun d=>bk d.2.2.2.2 (some (1)) (ck .i64 (d.2.2.2.1+1) (rec2 d.1 d.2.1 d.2.2.1 (d.2.2.2.1+1)))) (some (0))
def jO(N:Nat):Nat->TA->TA->Int->Int->Option Int:=aN [(.sl tA),(.sl tA),tC,tC] (gN N)
def cZ(N:Nat)(a:TA):Option Int:=bk (decide ((a.length:Int)>400)) (some (2)) (jO N N a a (a.length:Int) 0)
abbrev Wl(N:Nat):bx:=⟨87,⟨[(0,dd (.sl tA))],[],[]⟩,[⟨[(0,dd tC)],[],[]⟩],cZ N⟩
theorem xK(N:Nat):aF Tryz.prog (Wl N):=xf N (tc (aIk N) (tc (qF N) tn)) [] [⟨11,true,⟨[(0,dd (.sl tA)),(8,dd (.sl tA)),(9,dd tC),(10,dd tC),(31,dd .b)],[],[]⟩⟩,⟨6,false,⟨[(0,dd (.sl tA)),(8,dd (.sl tA)),(9,dd tC),(10,dd tC)],[],[]⟩⟩] 0 Tryz.func87 rfl (by kernel_rfl) fun a=>by kernel_rfl
def cV(N:Nat)(a:Int):Option TA:=bk (decide (a<0)) (none) (ck .i64 (0-((0:Nat):Int)) (ck .i64 (a-(0-((0:Nat):Int))) (bk (decide ((a-(0-((0:Nat):Int)))>0)) (bb (0<(a-(0-((0:Nat):Int)))) (bb (((0+(a-(0-((0:Nat):Int))).toNat)*80)<=140737488355328) (bb (((0:Nat):Int).toNat<=(a-(0-((0:Nat):Int))).toNat) (bf (((0:Nat):Int).toNat) (aaE ((0:Nat):Int).toNat (aag (a-(0-((0:Nat):Int))).toNat (0,(0,(0,(0,(0,(0,(0,([]:TE)))))))):TA)) (some (aaE ((0:Nat):Int).toNat (aag (a-(0-((0:Nat):Int))).toNat (0,(0,(0,(0,(0,(0,(0,([]:TE)))))))):TA))))))) (some ([]:TA)))))
abbrev pT(N:Nat):bx:=⟨143,⟨[(0,.fln tA),(1,dd tC)],[],[]⟩,[⟨[(0,.slw (.O 0) tA 0)],[],[some (.row true tA [])]⟩],cV N⟩
theorem pQ(N:Nat):aF Tryz.prog (pT N):=xf N tn [22] [] 0 Tryz.func143 rfl (by kernel_rfl) fun a=>by kernel_rfl
def bM(f:TV->Int->Int->TA->Option TA)(d:TV)(e b:Int)(a:TA):Option TA:=bk (decide (b<e)) (bB d b fun c=>bf a.length a (bb (((a.length+c.length)*80)<=140737488355328) (ck .i64 (b+1) (bf ((a++c).length) (a++c) (f d e (b+1) (a++c)))))) (bf a.length a (some a))
def dO:Nat->TV->Int->Int->TA->Option TA:=aN [tM,tC,tC,(.sl tA)] (bM)
def bK(N:Nat)(rec2:TV->Int->TV->Int->Int->Option TA)(c:TV)(a:Int)(f:TV)(g b:Int):Option TA:=bk (decide (b<g)) (bB f b fun d=>ck .i64 (a+(d.length:Int)) (bk (decide ((a+(d.length:Int))<0)) (none) (ck .i64 (b+1) (rec2 c (a+(d.length:Int)) f g (b+1))))) (bj (cV N a) fun e=>bf e.length e (dO N c (c.length:Int) 0 e))
def dN(N:Nat):Nat->TV->Int->TV->Int->Int->Option TA:=aN [tM,tC,tM,tC,tC] (bK N)
def cP(N:Nat)(a:TV):Option TA:=dN N N a 0 a (a.length:Int) 0
abbrev oI(N:Nat):bx:=⟨118,⟨[(0,dd tM)],[],[]⟩,[⟨[(0,.slw (.O 0) tA 0)],[],[some (.row true tA [])]⟩],cP N⟩
theorem oH(N:Nat):aF Tryz.prog (oI N):=xf N (tc (pQ N) tn) [33] [⟨14,false,⟨[(6,.slw (.O 0) tA 0),(25,dd tM),(26,dd tC),(27,dd tC)],[],[some (.row true tA [])]⟩⟩,⟨4,false,⟨[(0,dd tM),(3,dd tC),(9,dd tM),(10,dd tC),(11,dd tC)],[],[]⟩⟩] 0 Tryz.func118 rfl (by kernel_rfl) fun a=>by kernel_rfl
def eD(N:Nat)(a b:TH):Option Int:=bj (fN N a b) fun c=>some c
abbrev WV(N:Nat):bx:=⟨120,⟨[(0,dd tA),(1,dd tA)],[],[]⟩,[⟨[(0,dd tC)],[],[]⟩],eD N⟩
theorem sV(N:Nat):aF Tryz.prog (WV N):=xf N (tc (qF N) tn) [] [] 0 Tryz.func120 rfl (by kernel_rfl) fun a=>by kernel_rfl
def aS(N:Nat)(rec4:Int->Int->Int->TA->Option TA)(k:Int->Int->Int->Int->TA->Option TA)(h i:Int)(j d:Int)(e:TA):Option TA:=bj (bk (decide (d>h)) (bb (0<=d) (bb (d<(e.length:Int)) (cw e d.toNat fun f=>ck .i64 (d-1) (bb (0<=(d-1)) (bb ((d-1)<(e.length:Int)) (cw e ((d-1).toNat) fun g=>bj (eD N f g) fun l=>bf e.length e (some (h,i,j,d,decide (l<0),e)))))))) (bf e.length e (some (h,i,j,d,false,e)))) fun a=>bk a.2.2.2.2.1 (ck .i64 (a.2.2.2.1-1) (ck .i64 (a.2.2.2.1-1) (bb (0<=(a.2.2.2.1-1)) (bb ((a.2.2.2.1-1)<(a.2.2.2.2.2.length:Int)) (cw a.2.2.2.2.2 ((a.2.2.2.1-1).toNat) fun b=>bb (0<=a.2.2.2.1) (bb (a.2.2.2.1<(a.2.2.2.2.2.length:Int)) (cw a.2.2.2.2.2 a.2.2.2.1.toNat fun c=>bb (0<=a.2.2.2.1) (bb (a.2.2.2.1<(a.2.2.2.2.2.length:Int)) (cw a.2.2.2.2.2 a.2.2.2.1.toNat fun m=>bb (0<=(a.2.2.2.1-1)) (bb ((a.2.2.2.1-1)<(a.2.2.2.2.2.length:Int)) (cw (aaO a.2.2.2.2.2 a.2.2.2.1.toNat b) ((a.2.2.2.1-1).toNat) fun n=>ck .i64 (a.2.2.2.1-1) (bf a.2.2.2.2.2.length (aaO (aaO a.2.2.2.2.2 a.2.2.2.1.toNat b) (a.2.2.2.1-1).toNat c) (k a.1 a.2.1 a.2.2.1 (a.2.2.2.1-1) (aaO (aaO a.2.2.2.2.2 a.2.2.2.1.toNat b) (a.2.2.2.1-1).toNat c)))))))))))))) (ck .i64 (a.2.2.1+1) (bf a.2.2.2.2.2.length a.2.2.2.2.2 (rec4 a.1 a.2.1 (a.2.2.1+1) a.2.2.2.2.2)))
def bN(N:Nat)(rec4:Int->Int->Int->TA->Option TA):Nat->Int->Int->Int->Int->TA->Option TA:=aN [tC,tC,tC,tC,(.sl tA)] (aS N rec4)
def aK(N:Nat)(rec4:Int->Int->Int->TA->Option TA)(d c b:Int)(a:TA):Option TA:=bk (decide (b<c)) (bf a.length a (bN N rec4 N d c b b a)) (some a)
def aO(N:Nat):Nat->Int->Int->Int->TA->Option TA:=aN [tC,tC,tC,(.sl tA)] (aK N)
def aM(N:Nat)(a c:Int)(b:TA):Option TA:=ck .i64 (a+1) (bf b.length b (aO N N a c (a+1) b))
abbrev kJ(N:Nat):bx:=⟨169,⟨[(0,.slw (.B 0) tA 0),(1,dd tC),(2,dd tC),(3,.clo 120 [])],[some (.row true tA [])],[]⟩,[⟨[],[some (.row true tA [])],[]⟩],aM N⟩
theorem kU(N:Nat):aF Tryz.prog (kJ N):=xf N (tc (sV N) tn) [] [⟨8,true,⟨[(0,.slw (.B 0) tA 0),(1,dd tC),(2,dd tC),(3,.clo 120 []),(8,dd tC),(9,dd tC),(34,dd .b)],[some (.row true tA [])],[]⟩⟩,⟨6,false,⟨[(0,.slw (.B 0) tA 0),(1,dd tC),(2,dd tC),(3,.clo 120 []),(8,dd tC),(9,dd tC)],[some (.row true tA [])],[]⟩⟩,⟨1,false,⟨[(0,.slw (.B 0) tA 0),(1,dd tC),(2,dd tC),(3,.clo 120 []),(8,dd tC)],[some (.row true tA [])],[]⟩⟩] 1 Tryz.func169 rfl (by kernel_rfl) fun a=>by kernel_rfl
def bF(h:Int->Int->Int->Int->TA->Option TA)(d f:Int)(g a:Int)(e:TA):Option TA:=bk (decide (a<g)) (ck .i64 (d+a) (ck .i64 (f+a) (ck .i64 (f+a) (bb (0<=(f+a)) (bb ((f+a)<(e.length:Int)) (cw e ((f+a).toNat) fun b=>ck .i64 (d+a) (bb (0<=(d+a)) (bb ((d+a)<(e.length:Int)) (cw e ((d+a).toNat) fun c=>bb (0<=(d+a)) (bb ((d+a)<(e.length:Int)) (cw e ((d+a).toNat) fun i=>bb (0<=(f+a)) (bb ((f+a)<(e.length:Int)) (cw (aaO e (d+a).toNat b) ((f+a).toNat) fun j=>ck .i64 (a+1) (bf e.length (aaO (aaO e (d+a).toNat b) (f+a).toNat c) (h d f g (a+1) (aaO (aaO e (d+a).toNat b) (f+a).toNat c)))))))))))))))) (some e)
def cF:Nat->Int->Int->Int->Int->TA->Option TA:=aN [tC,tC,tC,tC,(.sl tA)] (bF)
def aW(N:Nat)(b c d:Int)(a:TA):Option TA:=bf a.length a (cF N b c d 0 a)
abbrev nF(N:Nat):bx:=⟨194,⟨[(0,.slw (.B 0) tA 0),(1,dd tC),(2,dd tC),(3,dd tC),(4,.clo 120 [])],[some (.row true tA [])],[]⟩,[⟨[],[some (.row true tA [])],[]⟩],aW N⟩
theorem nE(N:Nat):aF Tryz.prog (nF N):=xf N tn [] [⟨1,false,⟨[(0,.slw (.B 0) tA 0),(1,dd tC),(2,dd tC),(3,dd tC),(10,dd tC)],[some (.row true tA [])],[]⟩⟩] 1 Tryz.func194 rfl (by kernel_rfl) fun a=>by kernel_rfl
def dX(N:Nat)(e:Int->Int->Int->TA->Option TA)(b a c:Int)(d:TA):Option TA:=bk (a !=c) (bk (decide (a>c)) (ck .i64 (b-a) (bf d.length d (bj (aW N (b-a) b c d) fun f=>ck .i64 (a-c) (bf d.length f (e b (a-c) c f))))) (ck .i64 (b-a) (ck .i64 (b+c) (ck .i64 ((b+c)-a) (bf d.length d (bj (aW N (b-a) ((b+c)-a) a d) fun g=>ck .i64 (c-a) (bf d.length g (e b a (c-a) g)))))))) (ck .i64 (b-a) (bf d.length d (bj (aW N (b-a) b a d) fun h=>some h)))
def dW(N:Nat):Nat->Int->Int->Int->TA->Option TA:=aN [tC,tC,tC,(.sl tA)] (dX N)
def cE(N:Nat)(c a d:Int)(b:TA):Option TA:=ck .i64 (a-c) (ck .i64 (d-a) (bf b.length b (dW N N a (a-c) (d-a) b)))
abbrev oX(N:Nat):bx:=⟨185,⟨[(0,.slw (.B 0) tA 0),(1,dd tC),(2,dd tC),(3,dd tC),(4,.clo 120 [])],[some (.row true tA [])],[]⟩,[⟨[],[some (.row true tA [])],[]⟩],cE N⟩
theorem oS(N:Nat):aF Tryz.prog (oX N):=xf N (tc (nE N) tn) [5000194] [⟨3,false,⟨[(0,.slw (.B 0) tA 0),(2,dd tC),(4,.clo 120 []),(10,dd tC),(11,dd tC)],[some (.row true tA [])],[]⟩⟩] 1 Tryz.func185 rfl (by kernel_rfl) fun a=>by kernel_rfl
def bJ(f:Int->Int->TA->Option TA)(e b:Int)(d:TA):Option TA:=ck .i64 (e-1) (bk (decide (b<(e-1))) (ck .i64 (b+1) (ck .i64 (b+1) (bb (0<=(b+1)) (bb ((b+1)<(d.length:Int)) (cw d ((b+1).toNat) fun a=>bb (0<=b) (bb (b<(d.length:Int)) (cw d b.toNat fun c=>bb (0<=b) (bb (b<(d.length:Int)) (cw d b.toNat fun g=>bb (0<=(b+1)) (bb ((b+1)<(d.length:Int)) (cw (aaO d b.toNat a) ((b+1).toNat) fun h=>ck .i64 (b+1) (bf d.length (aaO (aaO d b.toNat a) (b+1).toNat c) (f e (b+1) (aaO (aaO d b.toNat a) (b+1).toNat c)))))))))))))) (some d))
def cG:Nat->Int->Int->TA->Option TA:=aN [tC,tC,(.sl tA)] (bJ)
def dF(N:Nat)(g:Int->Int->Int->TA->Option TA)(f b c:Int)(a:TA):Option TA:=bk (decide (b<c)) (ck .i64 (b+c) (bb (0<=(δ .i64 ((δ .u64 (b+c))/(2^1)))) (bb ((δ .i64 ((δ .u64 (b+c))/(2^1)))<(a.length:Int)) (cw a ((δ .i64 ((δ .u64 (b+c))/(2^1))).toNat) fun d=>bb (0<=f) (bb (f<(a.length:Int)) (cw a f.toNat fun e=>bj (eD N d e) fun h=>bk (decide (h<0)) (ck .i64 ((δ .i64 ((δ .u64 (b+c))/(2^1)))+1) (bf a.length a (g f ((δ .i64 ((δ .u64 (b+c))/(2^1)))+1) c a))) (bf a.length a (g f b (δ .i64 ((δ .u64 (b+c))/(2^1))) a)))))))) (bf a.length a (cG N b f a))
def dE(N:Nat):Nat->Int->Int->Int->TA->Option TA:=aN [tC,tC,tC,(.sl tA)] (dF N)
def bH(f:Int->Int->TA->Option TA)(e b:Int)(d:TA):Option TA:=bk (decide (b>e)) (ck .i64 (b-1) (ck .i64 (b-1) (bb (0<=(b-1)) (bb ((b-1)<(d.length:Int)) (cw d ((b-1).toNat) fun a=>bb (0<=b) (bb (b<(d.length:Int)) (cw d b.toNat fun c=>bb (0<=b) (bb (b<(d.length:Int)) (cw d b.toNat fun g=>bb (0<=(b-1)) (bb ((b-1)<(d.length:Int)) (cw (aaO d b.toNat a) ((b-1).toNat) fun h=>ck .i64 (b-1) (bf d.length (aaO (aaO d b.toNat a) (b-1).toNat c) (f e (b-1) (aaO (aaO d b.toNat a) (b-1).toNat c)))))))))))))) (some d)
def cH:Nat->Int->Int->TA->Option TA:=aN [tC,tC,(.sl tA)] (bH)
def dI(N:Nat)(g:Int->Int->Int->TA->Option TA)(f b c:Int)(a:TA):Option TA:=bk (decide (b<c)) (ck .i64 (b+c) (bb (0<=f) (bb (f<(a.length:Int)) (cw a f.toNat fun d=>bb (0<=(δ .i64 ((δ .u64 (b+c))/(2^1)))) (bb ((δ .i64 ((δ .u64 (b+c))/(2^1)))<(a.length:Int)) (cw a ((δ .i64 ((δ .u64 (b+c))/(2^1))).toNat) fun e=>bj (eD N d e) fun h=>bk (!decide (h<0)) (ck .i64 ((δ .i64 ((δ .u64 (b+c))/(2^1)))+1) (bf a.length a (g f ((δ .i64 ((δ .u64 (b+c))/(2^1)))+1) c a))) (bf a.length a (g f b (δ .i64 ((δ .u64 (b+c))/(2^1))) a)))))))) (bf a.length a (cH N b f a))
def dK(N:Nat):Nat->Int->Int->Int->TA->Option TA:=aN [tC,tC,tC,(.sl tA)] (dI N)
def aR(N:Nat)(aw:Nat->Int->Int->Int->TA->Option TA)(rec38:Int->Int->Int->Int->Int->Int->Int->Int->TA->Option TA)(n k:Int)(o p:Int)(l b:Int)(g m:Int)(e:TA):Option TA:=bk (decide (b<g)) (ck .i64 (b+g) (ck .i64 (m-(δ .i64 ((δ .u64 (b+g))/(2^1)))) (bb (0<=(m-(δ .i64 ((δ .u64 (b+g))/(2^1))))) (bb ((m-(δ .i64 ((δ .u64 (b+g))/(2^1))))<(e.length:Int)) (cw e ((m-(δ .i64 ((δ .u64 (b+g))/(2^1)))).toNat) fun h=>bb (0<=(δ .i64 ((δ .u64 (b+g))/(2^1)))) (bb ((δ .i64 ((δ .u64 (b+g))/(2^1)))<(e.length:Int)) (cw e ((δ .i64 ((δ .u64 (b+g))/(2^1))).toNat) fun i=>bj (eD N h i) fun s=>bk (!decide (s<0)) (ck .i64 ((δ .i64 ((δ .u64 (b+g))/(2^1)))+1) (bf e.length e (rec38 n k o p l ((δ .i64 ((δ .u64 (b+g))/(2^1)))+1) g m e))) (bf e.length e (rec38 n k o p l b (δ .i64 ((δ .u64 (b+g))/(2^1))) m e))))))))) (ck .i64 (l-b) (bj (bj (bk (decide (b<k)) (bf e.length e (some (n,k,o,p,b,(l-b),decide (k<(l-b)),e))) (bf e.length e (some (n,k,o,p,b,(l-b),false,e)))) fun a=>bk a.2.2.2.2.2.2.1 (bf a.2.2.2.2.2.2.2.length a.2.2.2.2.2.2.2 (bj (cE N a.2.2.2.2.1 a.2.1 a.2.2.2.2.2.1 a.2.2.2.2.2.2.2) fun q=>bf a.2.2.2.2.2.2.2.length q (some (a.1,a.2.2.1,a.2.2.2.1,a.2.2.2.2.1,a.2.2.2.2.2.1,q)))) (bf a.2.2.2.2.2.2.2.length a.2.2.2.2.2.2.2 (some (a.1,a.2.2.1,a.2.2.2.1,a.2.2.2.2.1,a.2.2.2.2.2.1,a.2.2.2.2.2.2.2)))) fun c=>bj (bj (bk (decide (c.1<c.2.2.2.1)) (bf c.2.2.2.2.2.length c.2.2.2.2.2 (some (c.1,c.2.1,c.2.2.1,c.2.2.2.1,c.2.2.2.2.1,decide (c.2.2.2.1<c.2.2.1),c.2.2.2.2.2))) (bf c.2.2.2.2.2.length c.2.2.2.2.2 (some (c.1,c.2.1,c.2.2.1,c.2.2.2.1,c.2.2.2.2.1,false,c.2.2.2.2.2)))) fun d=>bk d.2.2.2.2.2.1 (bf d.2.2.2.2.2.2.length d.2.2.2.2.2.2 (bj (aw N d.1 d.2.2.2.1 d.2.2.1 d.2.2.2.2.2.2) fun r=>bf d.2.2.2.2.2.2.length r (some (d.2.1,d.2.2.1,d.2.2.2.2.1,r)))) (bf d.2.2.2.2.2.2.length d.2.2.2.2.2.2 (some (d.2.1,d.2.2.1,d.2.2.2.2.1,d.2.2.2.2.2.2)))) fun f=>bj (bk (decide (f.2.1<f.2.2.1)) (bf f.2.2.2.length f.2.2.2 (some (f.1,f.2.1,f.2.2.1,decide (f.2.2.1<f.1),f.2.2.2))) (bf f.2.2.2.length f.2.2.2 (some (f.1,f.2.1,f.2.2.1,false,f.2.2.2)))) fun j=>bk j.2.2.2.1 (bf j.2.2.2.2.length j.2.2.2.2 (bj (aw N j.2.1 j.2.2.1 j.1 j.2.2.2.2) fun t=>some t)) (some j.2.2.2.2)))
def aL(N:Nat)(aw:Nat->Int->Int->Int->TA->Option TA):Nat->Int->Int->Int->Int->Int->Int->Int->Int->TA->Option TA:=aN [tC,tC,tC,tC,tC,tC,tC,tC,(.sl tA)] (aR N aw)
def dY(N:Nat)(aw:Nat->Int->Int->Int->TA->Option TA)(a c b:Int)(d:TA):Option TA:=ck .i64 (c-a) (bk ((c-a)==1) (bf d.length d (dE N N a c b d)) (ck .i64 (b-c) (bk ((b-c)==1) (bf d.length d (dK N N c a c d)) (ck .i64 (a+b) (ck .i64 ((δ .i64 ((δ .u64 (a+b))/(2^1)))+c) (bj (bk (decide (c>(δ .i64 ((δ .u64 (a+b))/(2^1))))) (ck .i64 (((δ .i64 ((δ .u64 (a+b))/(2^1)))+c)-b) (bf d.length d (some (a,c,b,(δ .i64 ((δ .u64 (a+b))/(2^1))),((δ .i64 ((δ .u64 (a+b))/(2^1)))+c),(((δ .i64 ((δ .u64 (a+b))/(2^1)))+c)-b),(δ .i64 ((δ .u64 (a+b))/(2^1))),d)))) (bf d.length d (some (a,c,b,(δ .i64 ((δ .u64 (a+b))/(2^1))),((δ .i64 ((δ .u64 (a+b))/(2^1)))+c),a,c,d)))) fun e=>ck .i64 (e.2.2.2.2.1-1) (bf e.2.2.2.2.2.2.2.length e.2.2.2.2.2.2.2 (aL N aw N e.1 e.2.1 e.2.2.1 e.2.2.2.1 e.2.2.2.2.1 e.2.2.2.2.2.1 e.2.2.2.2.2.2.1 (e.2.2.2.2.1-1) e.2.2.2.2.2.2.2))))))))
def aw:Nat->Int->Int->Int->TA->Option TA|0=>fun _ _ _ _=>none|N+1=>dY N fun _=>aw N
abbrev nR(N:Nat):bx:=⟨170,⟨[(0,.slw (.B 0) tA 0),(1,dd tC),(2,dd tC),(3,dd tC),(4,.clo 120 [])],[some (.row true tA [])],[]⟩,[⟨[],[some (.row true tA [])],[]⟩],aw N⟩
theorem oB(N:Nat):aF Tryz.prog (nR N):=by induction N with|zero=>(intro _ v r h;cases(show none=some r from h))|succ N ih=>exact xf N (tc (sV N) (tc (oS N) (tc ih tn))) [5000170,5000185] [⟨51,true,⟨[(0,.slw (.B 0) tA 0),(3,dd tC),(4,.clo 120 []),(18,dd tC),(24,dd tC),(213,dd .b)],[some (.row true tA [])],[]⟩⟩,⟨49,true,⟨[(0,.slw (.B 0) tA 0),(3,dd tC),(4,.clo 120 []),(18,dd tC),(24,dd tC)],[some (.row true tA [])],[]⟩⟩,⟨50,true,⟨[(0,.slw (.B 0) tA 0),(1,dd tC),(3,dd tC),(4,.clo 120 []),(18,dd tC),(20,dd tC),(24,dd tC),(199,dd .b)],[some (.row true tA [])],[]⟩⟩,⟨47,true,⟨[(0,.slw (.B 0) tA 0),(1,dd tC),(3,dd tC),(4,.clo 120 []),(18,dd tC),(20,dd tC),(24,dd tC)],[some (.row true tA [])],[]⟩⟩,⟨48,true,⟨[(0,.slw (.B 0) tA 0),(1,dd tC),(2,dd tC),(3,dd tC),(4,.clo 120 []),(18,dd tC),(20,dd tC),(24,dd tC),(185,dd .b)],[some (.row true tA [])],[]⟩⟩,⟨41,false,⟨[(0,.slw (.B 0) tA 0),(1,dd tC),(2,dd tC),(3,dd tC),(4,.clo 120 []),(18,dd tC),(19,dd tC),(20,dd tC),(21,dd tC),(22,dd tC)],[some (.row true tA [])],[]⟩⟩,⟨35,true,⟨[(0,.slw (.B 0) tA 0),(1,dd tC),(2,dd tC),(3,dd tC),(4,.clo 120 []),(18,dd tC),(19,dd tC),(20,dd tC),(21,dd tC)],[some (.row true tA [])],[]⟩⟩,⟨28,false,⟨[(0,.slw (.B 0) tA 0),(14,dd tC),(17,dd tC)],[some (.row true tA [])],[]⟩⟩,⟨21,false,⟨[(0,.slw (.B 0) tA 0),(2,dd tC),(4,.clo 120 []),(14,dd tC),(15,dd tC)],[some (.row true tA [])],[]⟩⟩,⟨12,false,⟨[(0,.slw (.B 0) tA 0),(10,dd tC),(13,dd tC)],[some (.row true tA [])],[]⟩⟩,⟨5,false,⟨[(0,.slw (.B 0) tA 0),(1,dd tC),(4,.clo 120 []),(10,dd tC),(11,dd tC)],[some (.row true tA [])],[]⟩⟩] 1 Tryz.func170 rfl (by kernel_rfl) fun a=>by kernel_rfl
def eC(N:Nat)(rec11:Int->Int->TA->Option TA)(i:Int->Int->Int->Int->TA->Option TA)(d a:Int)(c f:Int)(b:TA):Option TA:=bk (decide (f<=d)) (ck .i64 (c+a) (bf b.length b (bj (aw N c (c+a) f b) fun g=>ck .i64 (2*a) (ck .i64 (f+(2*a)) (bf b.length g (i d a f (f+(2*a)) g)))))) (bj (ck .i64 (c+a) (bk (decide ((c+a)<d)) (bf b.length b (bj (aw N c (c+a) d b) fun h=>bf b.length h (some (d,a,h)))) (bf b.length b (some (d,a,b))))) fun e=>ck .i64 (e.2.1*2) (bf e.2.2.length e.2.2 (rec11 e.1 (e.2.1*2) e.2.2)))
def dZ(N:Nat)(rec11:Int->Int->TA->Option TA):Nat->Int->Int->Int->Int->TA->Option TA:=aN [tC,tC,tC,tC,(.sl tA)] (eC N rec11)
def eE(N:Nat)(rec11:Int->Int->TA->Option TA)(c a:Int)(b:TA):Option TA:=bk (decide (a<c)) (ck .i64 (2*a) (bf b.length b (dZ N rec11 N c a 0 (2*a) b))) (some b)
def bR(N:Nat):Nat->Int->Int->TA->Option TA:=aN [tC,tC,(.sl tA)] (eE N)
def eG(N:Nat)(rec3:Int->Int->Int->Int->TA->Option TA)(c d:Int)(e b:Int)(a:TA):Option TA:=bk (decide (b<=c)) (bf a.length a (bj (aM N e b a) fun f=>ck .i64 (b+d) (bf a.length f (rec3 c d b (b+d) f)))) (bf a.length a (bj (aM N e c a) fun g=>bf a.length g (bR N N c d g)))
def dR(N:Nat):Nat->Int->Int->Int->Int->TA->Option TA:=aN [tC,tC,tC,tC,(.sl tA)] (eG N)
def eY(N:Nat)(b:Int)(a:TA):Option TA:=bf a.length a (dR N N b 20 0 20 a)
abbrev oQ(N:Nat):bx:=⟨144,⟨[(0,.slw (.B 0) tA 0),(1,dd tC),(2,.clo 120 [])],[some (.row true tA [])],[]⟩,[⟨[],[some (.row true tA [])],[]⟩],eY N⟩
theorem oN(N:Nat):aF Tryz.prog (oQ N):=xf N (tc (kU N) (tc (oB N) tn)) [5000170,5000169] [⟨19,true,⟨[(0,.slw (.B 0) tA 0),(1,dd tC),(2,.clo 120 []),(6,dd tC)],[some (.row true tA [])],[]⟩⟩,⟨14,false,⟨[(0,.slw (.B 0) tA 0),(1,dd tC),(2,.clo 120 []),(6,dd tC),(7,dd tC),(8,dd tC)],[some (.row true tA [])],[]⟩⟩,⟨9,false,⟨[(0,.slw (.B 0) tA 0),(1,dd tC),(2,.clo 120 []),(6,dd tC)],[some (.row true tA [])],[]⟩⟩,⟨3,false,⟨[(0,.slw (.B 0) tA 0),(1,dd tC),(2,.clo 120 []),(6,dd tC),(7,dd tC),(8,dd tC)],[some (.row true tA [])],[]⟩⟩] 1 Tryz.func144 rfl (by kernel_rfl) fun a=>by kernel_rfl
def bO(N:Nat)(a:TA):Option TA:=bf a.length a (bj (eY N (a.length:Int) a) fun b=>some b)
abbrev jX(N:Nat):bx:=⟨119,⟨[(0,.slw (.B 0) tA 0),(1,.clo 120 [])],[some (.row true tA [])],[]⟩,[⟨[],[some (.row true tA [])],[]⟩],bO N⟩
theorem jZ(N:Nat):aF Tryz.prog (jX N):=xf N (tc (oN N) tn) [5000144] [] 1 Tryz.func119 rfl (by kernel_rfl) fun a=>by kernel_rfl
def fR(rec3:TE->TE->Int->Int->Option Bool)(d e:TE)(f a:Int):Option Bool:=bk (decide (a<f)) (bB d a fun b=>bB e a fun c=>bk (!(oJ [(Sh.s 0),(Sh.s 2),(Sh.s 2)] (b.1==c.1) (oJ [(Sh.s 2),(Sh.s 2)] (b.2.1==c.2.1) (oJ [(Sh.s 2)] (b.2.2.1==c.2.2.1) (oJ ([]:(List Sh)) (b.2.2.2==c.2.2.2) true))))) (some false) (ck .i64 (a+1) (rec3 d e f (a+1)))) (some true)
def fL:Nat->TE->TE->Int->Int->Option Bool:=aN [(.sl tE),(.sl tE),tC,tC] (fR)
def gF(N:Nat)(a b:TE):Option Bool:=bk ((a.length:Int)!=(b.length:Int)) (some false) (fL N a b (a.length:Int) 0)
abbrev rS(N:Nat):bx:=⟨171,⟨[(0,dd (.sl tE)),(1,dd (.sl tE))],[],[]⟩,[⟨[(0,dd .b)],[],[]⟩],gF N⟩
theorem rX(N:Nat):aF Tryz.prog (rS N):=xf N tn [] [⟨6,false,⟨[(0,dd (.sl tE)),(1,dd (.sl tE)),(12,dd tC),(13,dd tC)],[],[]⟩⟩] 0 Tryz.func171 rfl (by kernel_rfl) fun a=>by kernel_rfl
def mA(N:Nat)(a b:TE):Option Bool:=bj (gF N a b) fun c=>some c
abbrev VA(N:Nat):bx:=⟨145,⟨[(0,dd (.w (.sl tE))),(1,dd (.w (.sl tE)))],[],[]⟩,[⟨[(0,dd .b)],[],[]⟩],mA N⟩
theorem UD(N:Nat):aF Tryz.prog (VA N):=xf N (tc (rX N) tn) [] [] 0 Tryz.func145 rfl (by kernel_rfl) fun a=>by kernel_rfl
def iQ(N:Nat)(a b:TH):Option Bool:=bj (mA N a.2.2.2.2.2.2.2 b.2.2.2.2.2.2.2) fun c=>bk (!c) (some false) (bj (bk (a.1==b.1) (bk (a.2.1==b.2.1) (bk (a.2.2.1==b.2.2.1) (bk (a.2.2.2.1==b.2.2.2.1) (bk (a.2.2.2.2.1==b.2.2.2.2.1) (bk (a.2.2.2.2.2.1==b.2.2.2.2.2.1) (some (a.2.2.2.2.2.2.1==b.2.2.2.2.2.2.1)) (some false)) (some false)) (some false)) (some false)) (some false)) (some false)) fun d=>some d)
abbrev Yd(N:Nat):bx:=⟨122,⟨[(0,dd tA),(1,dd tA)],[],[]⟩,[⟨[(0,dd .b)],[],[]⟩],iQ N⟩
theorem yN(N:Nat):aF Tryz.prog (Yd N):=xf N (tc (UD N) tn) [] [⟨4,true,⟨[(4,dd .b)],[],[]⟩⟩] 0 Tryz.func122 rfl (by kernel_rfl) fun a=>by kernel_rfl
def aX(N:Nat)(j:Int->Int->Int->Int->TA->Option TA)(a i:Int)(h d:Int)(b:TA):Option TA:=bk (decide (d<(h.toNat:Int))) (bj (bb (0<=d) (bb (d<(h.toNat:Int)) (cw b (i.toNat+d.toNat) fun e=>ck .i64 (d-1) (bb (0<=(d-1)) (bb ((d-1)<(h.toNat:Int)) (cw b (i.toNat+(d-1).toNat) fun f=>bj (iQ N e f) fun k=>bk (!k) (bb (0<=d) (bb (d<(h.toNat:Int)) (cw b (i.toNat+d.toNat) fun c=>bb (0<=a) (bb (a<(b.length:Int)) (cw b a.toNat fun l=>ck .i64 (a+1) (bf b.length (aaO b a.toNat c) (some ((a+1),(i.toNat:Int),(h.toNat:Int),d,(aaO b a.toNat c))))))))) (bf b.length b (some (a,(i.toNat:Int),(h.toNat:Int),d,b))))))))) fun g=>ck .i64 (g.2.2.2.1+1) (bf g.2.2.2.2.length g.2.2.2.2 (j g.1 (g.2.1.toNat:Int) (g.2.2.1.toNat:Int) (g.2.2.2.1+1) g.2.2.2.2))) (bb (0<=a) (bb (a.toNat<=b.length) (bb (b.length<=b.length) (bb ((a.toNat+(b.length-a.toNat))<=b.length) (bb (0<=a) (bb (a.toNat<=b.length) (bf a.toNat (aaE a.toNat (((aaE a.toNat b)++(aag (b.length-a.toNat) (0,(0,(0,(0,(0,(0,(0,([]:TE)))))))):TA))++(aaV (a.toNat+(b.length-a.toNat)) b))) (some (aaE a.toNat (((aaE a.toNat b)++(aag (b.length-a.toNat) (0,(0,(0,(0,(0,(0,(0,([]:TE)))))))):TA))++(aaV (a.toNat+(b.length-a.toNat)) b)))))))))))
def bS(N:Nat):Nat->Int->Int->Int->Int->TA->Option TA:=aN [tC,tC,tC,tC,(.sl tA)] (aX N)
def aY(N:Nat)(rec2:Int->TA->Option TA)(b:Int)(a:TA):Option TA:=bk (decide (b<(a.length:Int))) (bb (0<=b) (bb (b<(a.length:Int)) (cw a b.toNat fun c=>ck .i64 (b-1) (bb (0<=(b-1)) (bb ((b-1)<(a.length:Int)) (cw a ((b-1).toNat) fun d=>bj (iQ N c d) fun e=>bk e (bb (0<=b) (bb (b.toNat<=a.length) (bb (a.length<=a.length) (bf a.length a (bS N N b (b.toNat:Int) (((a.length-b.toNat):Nat):Int) 1 a))))) (ck .i64 (b+1) (bf a.length a (rec2 (b+1) a))))))))) (bf a.length a (some a))
def bQ(N:Nat):Nat->Int->TA->Option TA:=aN [tC,(.sl tA)] (aY N)
def cB(N:Nat)(a:TA):Option TA:=bk (decide ((a.length:Int)<2)) (bf a.length a (some a)) (bf a.length a (bQ N N 1 a))
abbrev lO(N:Nat):bx:=⟨123,⟨[(0,.slw (.B 0) tA 0),(1,.clo 122 [])],[some (.row true tA [])],[]⟩,[⟨[(0,.slw (.O 0) tA 0)],[none],[some (.row true tA [])]⟩],cB N⟩
theorem lG(N:Nat):aF Tryz.prog (lO N):=xf N (tc (yN N) tn) [] [⟨17,true,⟨[(0,.slw (.O 0) tA 0),(1,.clo 122 []),(5,dd tC),(6,.sl (.O 0) tA 0 0),(7,dd tC)],[none],[some (.row true tA [])]⟩⟩,⟨14,false,⟨[(0,.slw (.O 0) tA 0),(1,.clo 122 []),(5,dd tC),(6,.sl (.O 0) tA 0 0),(7,dd tC)],[none],[some (.row true tA [])]⟩⟩,⟨6,false,⟨[(0,.slw (.O 0) tA 0),(1,.clo 122 []),(5,dd tC)],[none],[some (.row true tA [])]⟩⟩] 0 Tryz.func123 rfl (by kernel_rfl) fun a=>by kernel_rfl
def eF(N:Nat)(i:Int->TA->Option TS)(b:Int)(a:TA):Option TS:=bk (decide (b<(a.length:Int))) (bj (ck .i64 (b-1) (bb (0<=(b-1)) (bb ((b-1)<(a.length:Int)) (cw a ((b-1).toNat) fun c=>bb (0<=b) (bb (b<(a.length:Int)) (cw a b.toNat fun d=>bj (fN N c d) fun j=>bk (j==0) (ck .i64 (b-1) (bb (0<=(b-1)) (bb ((b-1)<(a.length:Int)) (cw a ((b-1).toNat) fun e=>bb (0<=b) (bb (b<(a.length:Int)) (cw a b.toNat fun f=>bj (iQ N e f) fun k=>bf a.length a (some (b,(!k),a)))))))) (bf a.length a (some (b,false,a))))))))) fun g=>bk g.2.1 (some (24,([]:TA))) (ck .i64 (g.1+1) (bf g.2.2.length g.2.2 (i (g.1+1) g.2.2)))) (bf a.length a (bj (cB N a) fun h=>bk (decide ((h.length:Int)>400)) (some (2,([]:TA))) (bf h.length h (some (0,h)))))
def fJ(N:Nat):Nat->Int->TA->Option TS:=aN [tC,(.sl tA)] (eF N)
def gR(N:Nat)(rec3:TA->TA->Int->Int->TV->Option TS)(d e:TA)(f a:Int)(b:TV):Option TS:=bk (decide (a<f)) (bb (0<=a) (bb (a<(b.length:Int)) (cw b a.toNat fun i=>bj (cZ N i) fun g=>bk (g !=0) (some (g,([]:TA))) (ck .i64 (a+1) (bf b.length b (rec3 d e f (a+1) b)))))) (bj (cP N [d,e]) fun c=>bf c.length c (bj (bO N c) fun h=>bf c.length h (fJ N N 1 h)))
def oF(N:Nat):Nat->TA->TA->Int->Int->TV->Option TS:=aN [(.sl tA),(.sl tA),tC,tC,tM] (gR N)
def eJ(N:Nat)(a b:TA):Option TS:=oF N N a b (([(Operand.tmp 11),(Operand.tmp 12)].length:Nat):Int) 0 [a,b]
abbrev Xd(N:Nat):bx:=⟨67,⟨[(0,dd (.sl tA)),(1,dd (.sl tA))],[],[]⟩,[⟨[(0,.slw (.O 0) tA 0),(1,dd tC)],[],[some (.row true tA [])]⟩],eJ N⟩
theorem xP(N:Nat):aF Tryz.prog (Xd N):=xf N (tc (xK N) (tc (oH N) (tc (jZ N) (tc (qF N) (tc (yN N) (tc (lG N) tn)))))) [5000123,5000119] [⟨19,true,⟨[(9,.slw (.O 0) tA 0),(10,dd tC),(60,dd .b)],[],[some (.row true tA [])]⟩⟩,⟨15,false,⟨[(9,.slw (.O 0) tA 0),(10,dd tC)],[],[some (.row true tA [])]⟩⟩,⟨3,false,⟨[(0,dd (.sl tA)),(1,dd (.sl tA)),(13,.slw (.O 0) (.sl tA) 0),(14,dd tC),(15,dd tC)],[],[some (.row true (.sl tA) [])]⟩⟩] 0 Tryz.func67 rfl (by kernel_rfl) fun a=>by kernel_rfl
def dU(N:Nat)(a b c:Int):Option Bool:=bj (bk (decide (a≥b)) (some (decide (a<=c))) (some false)) fun d=>some d
abbrev YW(N:Nat):bx:=⟨149,⟨[(0,dd tC),(1,dd tC),(2,dd tC)],[],[]⟩,[⟨[(0,dd .b)],[],[]⟩],dU N⟩
theorem XO(N:Nat):aF Tryz.prog (YW N):=xf N tn [] [⟨1,true,⟨[(6,dd .b)],[],[]⟩⟩] 0 Tryz.func149 rfl (by kernel_rfl) fun a=>by kernel_rfl
def gI(N:Nat)(a:TB):Option Bool:=bj (bj (dU N a.1 0 39) fun b=>bk b (bj (dU N a.2.1 0 1099511627776) fun c=>bk c (bk (decide (a.2.2.1≥0)) (bk (decide (a.2.2.1<a.2.2.2.1)) (bk (decide (a.2.2.2.1<=1402560)) (bj (dU N a.2.2.2.2.1 0 1000) fun d=>bk d (bj (dU N a.2.2.2.2.2 0 14609) fun e=>some e) (some false)) (some false)) (some false)) (some false)) (some false)) (some false)) fun f=>some f
abbrev aIy(N:Nat):bx:=⟨131,⟨[(0,dd tB)],[],[]⟩,[⟨[(0,dd .b)],[],[]⟩],gI N⟩
theorem YO(N:Nat):aF Tryz.prog (aIy N):=xf N (tc (XO N) tn) [] [⟨2,true,⟨[(2,dd .b)],[],[]⟩⟩] 0 Tryz.func131 rfl (by kernel_rfl) fun a=>by kernel_rfl
def rY(rec2:Int->TC->Int->Int->Option Int)(b:Int)(c:TC)(d a:Int):Option Int:=bk (decide (a<d)) (bB c a fun e=>bk (e !=b) (some e) (ck .i64 (a+1) (rec2 b c d (a+1)))) (some b)
def sD:Nat->Int->TC->Int->Int->Option Int:=aN [tC,(.sl tC),tC,tC] (rY)
def qX(N:Nat)(a:TC):Option Int:=sD N 0 a (a.length:Int) 0
abbrev Xj(N:Nat):bx:=⟨141,⟨[(0,dd (.sl tC))],[],[]⟩,[⟨[(0,dd tC)],[],[]⟩],qX N⟩
theorem U7(N:Nat):aF Tryz.prog (Xj N):=xf N tn [] [⟨4,false,⟨[(3,dd tC),(6,dd (.sl tC)),(7,dd tC),(8,dd tC)],[],[]⟩⟩] 0 Tryz.func141 rfl (by kernel_rfl) fun a=>by kernel_rfl
def eL(N:Nat)(a b:TB):Option Int:=bj (cU N a.1 b.1) fun c=>bj (cU N a.2.1 b.2.1) fun d=>bj (qX N [c,d]) fun e=>some e
abbrev ZQ(N:Nat):bx:=⟨116,⟨[(0,dd tB),(1,dd tB)],[],[]⟩,[⟨[(0,dd tC)],[],[]⟩],eL N⟩
theorem xB(N:Nat):aF Tryz.prog (ZQ N):=xf N (tc (oE N) (tc (U7 N) tn)) [] [] 0 Tryz.func116 rfl (by kernel_rfl) fun a=>by kernel_rfl
def gP(N:Nat)(rec2:TG->TG->Int->Int->Option Int)(e f:TG)(g b:Int):Option Int:=bk (decide (b<g)) (bB f b fun a=>bj (bj (gI N a) fun h=>bk (!h) (some (e,f,g,b,true)) (bk (decide (b>0)) (ck .i64 (b-1) (bB e (b-1) fun c=>bj (eL N c a) fun i=>some (e,f,g,b,decide (i≥0)))) (some (e,f,g,b,false)))) fun d=>bk d.2.2.2.2 (some (1)) (ck .i64 (d.2.2.2.1+1) (rec2 d.1 d.2.1 d.2.2.1 (d.2.2.2.1+1)))) (some (0))
def jV(N:Nat):Nat->TG->TG->Int->Int->Option Int:=aN [(.sl tB),(.sl tB),tC,tC] (gP N)
def jE(N:Nat)(a:TG):Option Int:=bk (decide ((a.length:Int)>4000)) (some (2)) (jV N N a a (a.length:Int) 0)
abbrev aIx(N:Nat):bx:=⟨86,⟨[(0,dd (.sl tB))],[],[]⟩,[⟨[(0,dd tC)],[],[]⟩],jE N⟩
theorem xO(N:Nat):aF Tryz.prog (aIx N):=xf N (tc (YO N) (tc (xB N) tn)) [] [⟨11,true,⟨[(0,dd (.sl tB)),(8,dd (.sl tB)),(9,dd tC),(10,dd tC),(31,dd .b)],[],[]⟩⟩,⟨6,false,⟨[(0,dd (.sl tB)),(8,dd (.sl tB)),(9,dd tC),(10,dd tC)],[],[]⟩⟩] 0 Tryz.func86 rfl (by kernel_rfl) fun a=>by kernel_rfl
def fF(N:Nat)(b a:TB):Option Bool:=some (mF [1,1,1,1,1] (b.1==a.1) (mF [1,1,1,1] (b.2.1==a.2.1) (mF [1,1,1] (b.2.2.1==a.2.2.1) (mF [1,1] (b.2.2.2.1==a.2.2.2.1) (mF [1] (b.2.2.2.2.1==a.2.2.2.2.1) (mF ([]:(List Nat)) (a.2.2.2.2.2==a.2.2.2.2.2) true))))))
abbrev YN(N:Nat):bx:=⟨117,⟨[(0,dd tB),(1,dd tB)],[],[]⟩,[⟨[(0,dd .b)],[],[]⟩],fF N⟩
theorem Sz(N:Nat):aF Tryz.prog (YN N):=xf N tn [] [] 0 Tryz.func117 rfl (by kernel_rfl) fun a=>by kernel_rfl
def jR(N:Nat)(rec11:TG->TG->TG->Option TT)(k l f:TG):Option TT:=bj (bk (decide ((k.length:Int)>0)) (bf f.length f (some (k,l,decide ((l.length:Int)>0),f))) (bf f.length f (some (k,l,false,f)))) fun a=>bk a.2.2.1 (bB a.1 (0) fun g=>bB a.2.1 (0) fun h=>bj (eL N g h) fun m=>bk (decide (m<0)) (bB a.1 (0) fun c=>bf a.2.2.2.length a.2.2.2 (bb (((a.2.2.2.length+[c].length)*48)<=140737488355328) (bb (1<=a.1.length) (bb (a.1.length<=a.1.length) (bf ((a.2.2.2++[c]).length) (a.2.2.2++[c]) (rec11 (aaE (a.1.length-1) (aaV 1 a.1)) a.2.1 (a.2.2.2++[c]))))))) (bk (decide (m>0)) (bB a.2.1 (0) fun d=>bf a.2.2.2.length a.2.2.2 (bb (((a.2.2.2.length+[d].length)*48)<=140737488355328) (bb (1<=a.2.1.length) (bb (a.2.1.length<=a.2.1.length) (bf ((a.2.2.2++[d]).length) (a.2.2.2++[d]) (rec11 a.1 (aaE (a.2.1.length-1) (aaV 1 a.2.1)) (a.2.2.2++[d]))))))) (bB a.1 (0) fun i=>bB a.2.1 (0) fun j=>bj (fF N i j) fun n=>bk (!n) (some (24,([]:TG))) (bB a.1 (0) fun b=>bB a.2.1 (0) fun e=>bb (b.1=b.1) (bb (b.2.1=b.2.1) (bb (b.2.2.1=b.2.2.1) (bb (b.2.2.2.1=b.2.2.2.1) (bb (b.2.2.2.2.1=b.2.2.2.2.1) (bb ((Min.min b.2.2.2.2.2 e.2.2.2.2.2)=(Min.min b.2.2.2.2.2 e.2.2.2.2.2)) (bf a.2.2.2.length a.2.2.2 (bb (((a.2.2.2.length+[(b.1,(b.2.1,(b.2.2.1,(b.2.2.2.1,(b.2.2.2.2.1,(Min.min b.2.2.2.2.2 e.2.2.2.2.2))))))].length)*48)<=140737488355328) (bb (b.1=b.1) (bb (b.2.1=b.2.1) (bb (b.2.2.1=b.2.2.1) (bb (b.2.2.2.1=b.2.2.2.1) (bb (b.2.2.2.2.1=b.2.2.2.2.1) (bb ((Min.min b.2.2.2.2.2 e.2.2.2.2.2)=(Min.min b.2.2.2.2.2 e.2.2.2.2.2)) (bb (1<=a.1.length) (bb (a.1.length<=a.1.length) (bb (1<=a.2.1.length) (bb (a.2.1.length<=a.2.1.length) (bf ((a.2.2.2++[(b.1,(b.2.1,(b.2.2.1,(b.2.2.2.1,(b.2.2.2.2.1,(Min.min b.2.2.2.2.2 e.2.2.2.2.2))))))]).length) (a.2.2.2++[(b.1,(b.2.1,(b.2.2.1,(b.2.2.2.1,(b.2.2.2.2.1,(Min.min b.2.2.2.2.2 e.2.2.2.2.2))))))]) (rec11 (aaE (a.1.length-1) (aaV 1 a.1)) (aaE (a.2.1.length-1) (aaV 1 a.2.1)) (a.2.2.2++[(b.1,(b.2.1,(b.2.2.1,(b.2.2.2.1,(b.2.2.2.2.1,(Min.min b.2.2.2.2.2 e.2.2.2.2.2))))))])))))))))))))))))))))))) (bf a.2.2.2.length a.2.2.2 (bb (((a.2.2.2.length+a.1.length)*48)<=140737488355328) (bf ((a.2.2.2++a.1).length) (a.2.2.2++a.1) (bb ((((a.2.2.2++a.1).length+a.2.1.length)*48)<=140737488355328) (bk (decide (((((a.2.2.2++a.1)++a.2.1).length:Nat):Int)>4000)) (some (2,([]:TG))) (bf (((a.2.2.2++a.1)++a.2.1).length) ((a.2.2.2++a.1)++a.2.1) (some (0,((a.2.2.2++a.1)++a.2.1)))))))))
def cM(N:Nat):Nat->TG->TG->TG->Option TT:=aN [(.sl tB),(.sl tB),(.sl tB)] (jR N)
def gS(N:Nat)(rec3:TG->TG->Int->Int->(List TG)->Option TT)(c d:TG)(e a:Int)(b:(List TG)):Option TT:=bk (decide (a<e)) (bb (0<=a) (bb (a<(b.length:Int)) (cw b a.toNat fun g=>bj (jE N g) fun f=>bk (f !=0) (some (f,([]:TG))) (ck .i64 (a+1) (bf b.length b (rec3 c d e (a+1) b)))))) (cM N N c d ([]:TG))
def nJ(N:Nat):Nat->TG->TG->Int->Int->(List TG)->Option TT:=aN [(.sl tB),(.sl tB),tC,tC,(.sl (.sl tB))] (gS N)
def fM(N:Nat)(a b:TG):Option TT:=nJ N N a b (([(Operand.tmp 12),(Operand.tmp 13)].length:Nat):Int) 0 [a,b]
abbrev Ya(N:Nat):bx:=⟨66,⟨[(0,dd (.sl tB)),(1,dd (.sl tB))],[],[]⟩,[⟨[(0,.slw (.O 0) tB 0),(1,dd tC)],[],[some (.row true tB [])]⟩],fM N⟩
theorem xI(N:Nat):aF Tryz.prog (Ya N):=xf N (tc (xO N) (tc (xB N) (tc (Sz N) tn))) [3000065,3000066,3000070,3000076,3000077,3000081,53,3000057,3000059,68,79,55,95,93] [⟨15,true,⟨[(0,dd (.sl tB)),(1,dd (.sl tB)),(9,.slw (.O 0) tB 0),(33,dd .b)],[],[some (.row true tB [])]⟩⟩,⟨13,false,⟨[(0,dd (.sl tB)),(1,dd (.sl tB)),(9,.slw (.O 0) tB 0)],[],[some (.row true tB [])]⟩⟩,⟨3,false,⟨[(0,dd (.sl tB)),(1,dd (.sl tB)),(14,.slw (.O 0) (.sl tB) 0),(15,dd tC),(16,dd tC)],[],[some (.row true (.sl tB) [])]⟩⟩] 0 Tryz.func66 rfl (by kernel_rfl) fun a=>by kernel_rfl
def lQ(N:Nat)(a:Int):Option Bool:=bj (bk (decide (a≥0)) (some (decide (a<=14609))) (some false)) fun b=>some b
abbrev aNq(N:Nat):bx:=⟨38,⟨[(0,dd tC)],[],[]⟩,[⟨[(0,dd .b)],[],[]⟩],lQ N⟩
theorem QV(N:Nat):aF Tryz.prog (aNq N):=xf N tn [] [⟨1,true,⟨[(2,dd .b)],[],[]⟩⟩] 0 Tryz.func38 rfl (by kernel_rfl) fun a=>by kernel_rfl
def gJ(N:Nat)(b:TG)(c:TA):Option Int:=bj (jE N b) fun a=>bk (a !=0) (some a) (bj (cZ N c) fun d=>some d)
abbrev xW(N:Nat):bx:=⟨37,⟨[(0,dd (.sl tB)),(1,dd (.sl tA))],[],[]⟩,[⟨[(0,dd tC)],[],[]⟩],gJ N⟩
theorem qC(N:Nat):aF Tryz.prog (xW N):=xf N (tc (xO N) (tc (xK N) tn)) [] [] 0 Tryz.func37 rfl (by kernel_rfl) fun a=>by kernel_rfl
def oG(N:Nat)(b:TB)(a:Int)(c:TG)(d:TA):Option (Bool×TF):=some ((b.2.2.2.2.2!=a),(a,(c,d)))
abbrev Vo(N:Nat):bx:=⟨63,⟨[(0,dd tB),(1,.ptr (.B 0) 0)],[some (.box [dd tC,dd (.sl tB),dd (.sl tA)])],[]⟩,[⟨[(0,dd .b)],[some (.box [dd tC,dd (.sl tB),dd (.sl tA)])],[]⟩],oG N⟩
theorem aDv(N:Nat):aF Tryz.prog (Vo N):=xf N tn [] [] 1 Tryz.func63 rfl (by kernel_rfl) fun a=>by kernel_rfl
def bX(N:Nat)(i:TG->Int->Int->Int->TG->TA->Option xa)(d:TG)(e c f:Int)(g:TG)(h:TA):Option xa:=bk (decide (c<e)) (bB d c fun b=>bj (oG N b f g h) fun a=>bk a.1 (some (c,a.2)) (ck .i64 (c+1) (i d e (c+1) a.2.1 a.2.2.1 a.2.2.2))) (some ((-1),(f,(g,h))))
def cA(N:Nat):Nat->TG->Int->Int->Int->TG->TA->Option xa:=aN [(.sl tB),tC,tC,tC,(.sl tB),(.sl tA)] (bX N)
def dJ(N:Nat)(a:TG)(b:Int)(c:TG)(d:TA):Option xa:=cA N N a (a.length:Int) 0 b c d
abbrev mN(N:Nat):bx:=⟨114,⟨[(0,dd (.sl tB)),(1,.clo 63 [.ptr (.B 0) 0])],[some (.box [dd tC,dd (.sl tB),dd (.sl tA)])],[]⟩,[⟨[(0,dd tC)],[some (.box [dd tC,dd (.sl tB),dd (.sl tA)])],[]⟩],dJ N⟩
theorem mM(N:Nat):aF Tryz.prog (mN N):=xf N (tc (aDv N) tn) [16,5000063] [⟨3,false,⟨[(0,dd (.sl tB)),(1,.clo 63 [.ptr (.B 0) 0]),(7,dd tC),(8,dd tC)],[some (.box [dd tC,dd (.sl tB),dd (.sl tA)])],[]⟩⟩] 1 Tryz.func114 rfl (by kernel_rfl) fun a=>by kernel_rfl
def bU(N:Nat)(b:TG)(c:Int)(d:TG)(e:TA):Option (Bool×TF):=bj (dJ N b c d e) fun a=>some (decide (a.1≥0),a.2)
abbrev kS(N:Nat):bx:=⟨62,⟨[(0,dd (.sl tB)),(1,.clo 63 [.ptr (.B 0) 0])],[some (.box [dd tC,dd (.sl tB),dd (.sl tA)])],[]⟩,[⟨[(0,dd .b)],[some (.box [dd tC,dd (.sl tB),dd (.sl tA)])],[]⟩],bU N⟩
theorem kT(N:Nat):aF Tryz.prog (kS N):=xf N (tc (mM N) tn) [5000114] [] 1 Tryz.func62 rfl (by kernel_rfl) fun a=>by kernel_rfl
def nY(N:Nat)(b:TH)(a:Int)(c:TG)(d:TA):Option (Bool×TF):=some ((b.2.2.2.1!=a),(a,(c,d)))
abbrev X6(N:Nat):bx:=⟨65,⟨[(0,dd tA),(1,.ptr (.B 0) 0)],[some (.box [dd tC,dd (.sl tB),dd (.sl tA)])],[]⟩,[⟨[(0,dd .b)],[some (.box [dd tC,dd (.sl tB),dd (.sl tA)])],[]⟩],nY N⟩
theorem aDf(N:Nat):aF Tryz.prog (X6 N):=xf N tn [] [] 1 Tryz.func65 rfl (by kernel_rfl) fun a=>by kernel_rfl
def cC(N:Nat)(i:TA->Int->Int->Int->TG->TA->Option xa)(d:TA)(e c f:Int)(g:TG)(h:TA):Option xa:=bk (decide (c<e)) (bB d c fun a=>bj (nY N a f g h) fun b=>bk b.1 (some (c,b.2)) (ck .i64 (c+1) (i d e (c+1) b.2.1 b.2.2.1 b.2.2.2))) (some ((-1),(f,(g,h))))
def bZ(N:Nat):Nat->TA->Int->Int->Int->TG->TA->Option xa:=aN [(.sl tA),tC,tC,tC,(.sl tB),(.sl tA)] (cC N)
def dG(N:Nat)(a:TA)(b:Int)(c:TG)(d:TA):Option xa:=bZ N N a (a.length:Int) 0 b c d
abbrev mH(N:Nat):bx:=⟨115,⟨[(0,dd (.sl tA)),(1,.clo 65 [.ptr (.B 0) 0])],[some (.box [dd tC,dd (.sl tB),dd (.sl tA)])],[]⟩,[⟨[(0,dd tC)],[some (.box [dd tC,dd (.sl tB),dd (.sl tA)])],[]⟩],dG N⟩
theorem mP(N:Nat):aF Tryz.prog (mH N):=xf N (tc (aDf N) tn) [16,5000065] [⟨3,false,⟨[(0,dd (.sl tA)),(1,.clo 65 [.ptr (.B 0) 0]),(7,dd tC),(8,dd tC)],[some (.box [dd tC,dd (.sl tB),dd (.sl tA)])],[]⟩⟩] 1 Tryz.func115 rfl (by kernel_rfl) fun a=>by kernel_rfl
def bT(N:Nat)(b:TA)(c:Int)(d:TG)(e:TA):Option (Bool×TF):=bj (dG N b c d e) fun a=>some (decide (a.1≥0),a.2)
abbrev kI(N:Nat):bx:=⟨64,⟨[(0,dd (.sl tA)),(1,.clo 65 [.ptr (.B 0) 0])],[some (.box [dd tC,dd (.sl tB),dd (.sl tA)])],[]⟩,[⟨[(0,dd .b)],[some (.box [dd tC,dd (.sl tB),dd (.sl tA)])],[]⟩],bT N⟩
theorem kY(N:Nat):aF Tryz.prog (kI N):=xf N (tc (mP N) tn) [5000115] [] 1 Tryz.func64 rfl (by kernel_rfl) fun a=>by kernel_rfl
def cY(N:Nat)(a:TF):Option Int:=bj (lQ N a.1) fun d=>bk (!d) (some (3)) (bj (gJ N a.2.1 a.2.2) fun c=>bk (c !=0) (some c) (bj (bj (bU N a.2.1 a.1 a.2.1 a.2.2) fun b=>bk b.1 (some true) (bj (bT N b.2.2.2 b.2.1 b.2.2.1 b.2.2.2) fun e=>some e.1)) fun f=>bk f (some (1)) (some (0))))
abbrev SQ(N:Nat):bx:=⟨22,⟨[(0,dd tD)],[],[]⟩,[⟨[(0,dd tC)],[],[]⟩],cY N⟩
theorem pU(N:Nat):aF Tryz.prog (SQ N):=xf N (tc (QV N) (tc (qC N) (tc (kT N) (tc (kY N) tn)))) [5000064,5000062] [⟨9,true,⟨[(25,dd .b)],[],[]⟩⟩] 0 Tryz.func22 rfl (by kernel_rfl) fun a=>by kernel_rfl
def cI(N:Nat)(a b:TF):Option Int:=bj (cY N a) fun c=>bk (c !=0) (some c) (bj (cY N b) fun d=>bk (d !=0) (some d) (bk (a.1!=b.1) (some (1)) (some (0))))
abbrev Vd(N:Nat):bx:=⟨71,⟨[(0,dd tD),(1,dd tD)],[],[]⟩,[⟨[(0,dd tC)],[],[]⟩],cI N⟩
theorem sA(N:Nat):aF Tryz.prog (Vd N):=xf N (tc (pU N) tn) [] [] 0 Tryz.func71 rfl (by kernel_rfl) fun a=>by kernel_rfl
def aT(N:Nat)(a b:TF):Option TO:=bj (cI N a b) fun e=>bk (e !=0) (some (0,(([]:TG),(([]:TA),e)))) (bj (fM N a.2.1 b.2.1) fun c=>bk (c.1!=0) (some (0,(([]:TG),(([]:TA),c.1)))) (bj (eJ N a.2.2 b.2.2) fun d=>bk (d.1!=0) (some (0,(([]:TG),(([]:TA),d.1)))) (bf c.2.length c.2 (bf d.2.length d.2 (some (a.1,(c.2,(d.2,0))))))))
abbrev Y4(N:Nat):bx:=⟨28,⟨[(0,dd tD),(1,dd tD)],[],[]⟩,[⟨[(0,.agg [dd tC,dd (.sl tB),dd (.sl tA)]),(1,dd tC)],[],[]⟩],aT N⟩
theorem xC(N:Nat):aF Tryz.prog (Y4 N):=xf N (tc (sA N) (tc (xI N) (tc (xP N) tn))) [] [] 0 Tryz.func28 rfl (by kernel_rfl) fun a=>by kernel_rfl
def WA(N:Nat)(rec2:TN->Int->Int->TG->TA->Option TF)(g:TN)(h f:Int)(a:TG)(b:TA):Option TF:=bk (decide (f<h)) (bB g f fun c=>bj (cY N c) fun i=>bk (i !=0) (some (i,(([]:TG),([]:TA)))) (bf a.length a (bj (fM N a c.2.1) fun d=>bk (d.1!=0) (some (d.1,(([]:TG),([]:TA)))) (bf b.length b (bj (eJ N b c.2.2) fun e=>bk (e.1!=0) (some (e.1,(([]:TG),([]:TA)))) (ck .i64 (f+1) (bf d.2.length d.2 (bf e.2.length e.2 (rec2 g h (f+1) d.2 e.2))))))))) (bf a.length a (bf b.length b (some (0,(a,b)))))
def RW(N:Nat):Nat->TN->Int->Int->TG->TA->Option TF:=aN [(.sl tD),tC,tC,(.sl tB),(.sl tA)] (WA N)
def Q8(N:Nat)(a:TN):Option TF:=RW N N a (a.length:Int) 0 ([]:TG) ([]:TA)
abbrev Va(N:Nat):bx:=⟨24,⟨[(0,dd (.sl tD))],[],[]⟩,[⟨[(0,.slw (.O 0) tB 0),(1,.slw (.O 1) tA 0),(2,dd tC)],[],[some (.row true tB []),some (.row true tA [])]⟩],Q8 N⟩
theorem SY(N:Nat):aF Tryz.prog (Va N):=xf N (tc (pU N) (tc (xI N) (tc (xP N) tn))) [] [⟨3,false,⟨[(2,.slw (.O 0) tB 0),(3,.slw (.O 1) tA 0),(8,dd (.sl tD)),(9,dd tC),(10,dd tC)],[],[some (.row true tB []),some (.row true tA [])]⟩⟩] 0 Tryz.func24 rfl (by kernel_rfl) fun a=>by kernel_rfl
def wO(rec2:Int->TC->Option TC)(b:Int)(a:TC):Option TC:=bk (decide (b>127)) (bf a.length a (bb (((a.length+[(bits .or .u8 (δ .u8 b) 128)].length)*1)<=140737488355328) (bf ((a++[(bits .or .u8 (δ .u8 b) 128)]).length) (a++[(bits .or .u8 (δ .u8 b) 128)]) (rec2 (b/(2^7)) (a++[(bits .or .u8 (δ .u8 b) 128)]))))) (bf a.length a (bb (((a.length+[(δ .u8 b)].length)*1)<=140737488355328) (bf ((a++[(δ .u8 b)]).length) (a++[(δ .u8 b)]) (some (a++[(δ .u8 b)])))))
def qQ:Nat->Int->TC->Option TC:=aN [tK,tH] (wO)
def gE(N:Nat)(a:Int):Option TC:=qQ N (bits .xor .u64 (δ .u64 ((δ .u64 a)*(2^1))) (δ .u64 (a/(2^63)))) ([]:TC)
abbrev ZV(N:Nat):bx:=⟨42,⟨[(0,dd tC)],[],[]⟩,[⟨[(0,.slw (.O 0) (.i .u8) 0)],[],[some (.row true (.i .u8) [])]⟩],gE N⟩
theorem rJ(N:Nat):aF Tryz.prog (ZV N):=xf N tn [21,26] [⟨4,false,⟨[(3,dd tK),(4,.slw (.O 0) (.i .u8) 0)],[],[some (.row true (.i .u8) [])]⟩⟩] 0 Tryz.func42 rfl (by kernel_rfl) fun a=>by kernel_rfl
def jL(N:Nat)(rec3:TC->Int->Int->TC->Option TC)(d:TC)(e c:Int)(a:TC):Option TC:=bk (decide (c<e)) (bB d c fun f=>bj (gE N f) fun b=>bf a.length a (bf b.length b (bb (((a.length+b.length)*1)<=140737488355328) (ck .i64 (c+1) (bf ((a++b).length) (a++b) (rec3 d e (c+1) (a++b))))))) (bf a.length a (some a))
def jW(N:Nat):Nat->TC->Int->Int->TC->Option TC:=aN [(.sl tC),tC,tC,tH] (jL N)
def qG(N:Nat)(a:TC):Option TC:=bj (gE N (a.length:Int)) fun b=>bf b.length b (jW N N a (a.length:Int) 0 b)
abbrev aIr(N:Nat):bx:=⟨172,⟨[(0,dd (.sl tC)),(1,.clo 42 [])],[],[]⟩,[⟨[(0,.slw (.O 0) (.i .u8) 0)],[],[some (.row true (.i .u8) [])]⟩],qG N⟩
theorem ZZ(N:Nat):aF Tryz.prog (aIr N):=xf N (tc (rJ N) tn) [21] [⟨4,false,⟨[(1,.clo 42 []),(5,.slw (.O 0) (.i .u8) 0),(11,dd (.sl tC)),(12,dd tC),(13,dd tC)],[],[some (.row true (.i .u8) [])]⟩⟩] 0 Tryz.func172 rfl (by kernel_rfl) fun a=>by kernel_rfl
def zC(N:Nat)(b:TC):Option TC:=bj (qG N b) fun a=>bf a.length a (some a)
abbrev ZL(N:Nat):bx:=⟨146,⟨[(0,dd (.sl tC))],[],[]⟩,[⟨[(0,.slw (.O 0) (.i .u8) 0)],[],[some (.row true (.i .u8) [])]⟩],zC N⟩
theorem aVh(N:Nat):aF Tryz.prog (ZL N):=xf N (tc (ZZ N) tn) [] [] 0 Tryz.func146 rfl (by kernel_rfl) fun a=>by kernel_rfl
def iS(N:Nat)(b:TC):Option bw:=bj (zC N b) fun a=>bf a.length a (some (bA a))
abbrev aKx(N:Nat):bx:=⟨128,⟨[(0,dd (.sl tC))],[],[]⟩,[⟨[(0,dd .s)],[],[]⟩],iS N⟩
theorem yQ(N:Nat):aF Tryz.prog (aKx N):=xf N (tc (aVh N) tn) [] [] 0 Tryz.func128 rfl (by kernel_rfl) fun a=>by kernel_rfl
def gC(N:Nat)(a:TB):Option bw:=bj (iS N [1,a.1,a.2.1,a.2.2.1,a.2.2.2.1,a.2.2.2.2.1,a.2.2.2.2.2]) fun b=>some b
abbrev Zq(N:Nat):bx:=⟨74,⟨[(0,dd tB)],[],[]⟩,[⟨[(0,dd .s)],[],[]⟩],gC N⟩
theorem zP(N:Nat):aF Tryz.prog (Zq N):=xf N (tc (yQ N) tn) [] [] 0 Tryz.func74 rfl (by kernel_rfl) fun a=>by kernel_rfl
def nL(N:Nat)(b:bw):Option TC:=bj (gE N (b.length:Int)) fun a=>bf a.length a (bb (((a.length+(bE b).length)*1)<=140737488355328) (bf ((a++(bE b)).length) (a++(bE b)) (some (a++(bE b)))))
abbrev Si(N:Nat):bx:=⟨82,⟨[(0,dd .s)],[],[]⟩,[⟨[(0,.slw (.O 0) (.i .u8) 0)],[],[some (.row true (.i .u8) [])]⟩],nL N⟩
theorem N6(N:Nat):aF Tryz.prog (Si N):=xf N (tc (rJ N) tn) [7] [] 0 Tryz.func82 rfl (by kernel_rfl) fun a=>by kernel_rfl
def gL(N:Nat)(rec3:TK->Int->Int->TC->Option TC)(d:TK)(e c:Int)(a:TC):Option TC:=bk (decide (c<e)) (bB d c fun f=>bj (nL N f) fun b=>bf a.length a (bf b.length b (bb (((a.length+b.length)*1)<=140737488355328) (ck .i64 (c+1) (bf ((a++b).length) (a++b) (rec3 d e (c+1) (a++b))))))) (bf a.length a (some a))
def gQ(N:Nat):Nat->TK->Int->Int->TC->Option TC:=aN [(.sl .s),tC,tC,tH] (gL N)
def mT(N:Nat)(a:TK):Option TC:=bj (gE N (a.length:Int)) fun b=>bf b.length b (gQ N N a (a.length:Int) 0 b)
abbrev ZA(N:Nat):bx:=⟨94,⟨[(0,dd (.sl .s)),(1,.clo 82 [])],[],[]⟩,[⟨[(0,.slw (.O 0) (.i .u8) 0)],[],[some (.row true (.i .u8) [])]⟩],mT N⟩
theorem aCw(N:Nat):aF Tryz.prog (ZA N):=xf N (tc (rJ N) (tc (N6 N) tn)) [21] [⟨4,false,⟨[(1,.clo 82 []),(5,.slw (.O 0) (.i .u8) 0),(11,dd (.sl .s)),(12,dd tC),(13,dd tC)],[],[some (.row true (.i .u8) [])]⟩⟩] 0 Tryz.func94 rfl (by kernel_rfl) fun a=>by kernel_rfl
def kH(N:Nat)(b:TK):Option TC:=bj (mT N b) fun a=>bf a.length a (some a)
abbrev Z0(N:Nat):bx:=⟨43,⟨[(0,dd (.sl .s))],[],[]⟩,[⟨[(0,.slw (.O 0) (.i .u8) 0)],[],[some (.row true (.i .u8) [])]⟩],kH N⟩
theorem zE(N:Nat):aF Tryz.prog (Z0 N):=xf N (tc (aCw N) tn) [] [] 0 Tryz.func43 rfl (by kernel_rfl) fun a=>by kernel_rfl
def kR(N:Nat)(rec2:TE->Int->Int->Int->Int->Int->Int->Int->Int->Int->TE->TK->Option bw)(h:TE)(i f:Int)(j k:Int)(l m:Int)(n o p:Int)(q:TE)(b:TK):Option bw:=bk (decide (f<i)) (bB h f fun c=>bj (bk c.2.1 (bf b.length b (some ((1:Int),h,i,f,j,k,l,m,n,o,p,q,b,c.1,c.2.1,c.2.2.1,c.2.2.2))) (bf b.length b (some ((0:Int),h,i,f,j,k,l,m,n,o,p,q,b,c.1,c.2.1,c.2.2.1,c.2.2.2)))) fun a=>bj (gE N a.2.2.2.2.2.2.2.2.2.2.2.2.2.1) fun d=>bf d.length d (bj (gE N a.1) fun e=>bf e.length e (bf a.2.2.2.2.2.2.2.2.2.2.2.2.1.length a.2.2.2.2.2.2.2.2.2.2.2.2.1 (bb (((a.2.2.2.2.2.2.2.2.2.2.2.2.1.length+[(bA d),(bA e),a.2.2.2.2.2.2.2.2.2.2.2.2.2.2.2.1,a.2.2.2.2.2.2.2.2.2.2.2.2.2.2.2.2].length)*16)<=140737488355328) (ck .i64 (a.2.2.2.1+1) (bf ((a.2.2.2.2.2.2.2.2.2.2.2.2.1++[(bA d),(bA e),a.2.2.2.2.2.2.2.2.2.2.2.2.2.2.2.1,a.2.2.2.2.2.2.2.2.2.2.2.2.2.2.2.2]).length) (a.2.2.2.2.2.2.2.2.2.2.2.2.1++[(bA d),(bA e),a.2.2.2.2.2.2.2.2.2.2.2.2.2.2.2.1,a.2.2.2.2.2.2.2.2.2.2.2.2.2.2.2.2]) (rec2 a.2.1 a.2.2.1 (a.2.2.2.1+1) a.2.2.2.2.1 a.2.2.2.2.2.1 a.2.2.2.2.2.2.1 a.2.2.2.2.2.2.2.1 a.2.2.2.2.2.2.2.2.1 a.2.2.2.2.2.2.2.2.2.1 a.2.2.2.2.2.2.2.2.2.2.1 a.2.2.2.2.2.2.2.2.2.2.2.1 (a.2.2.2.2.2.2.2.2.2.2.2.2.1++[(bA d),(bA e),a.2.2.2.2.2.2.2.2.2.2.2.2.2.2.2.1,a.2.2.2.2.2.2.2.2.2.2.2.2.2.2.2.2])))))))) (bj (iS N [2,j,k,l,m,n,o,p]) fun r=>bf b.length b (bj (kH N b) fun g=>bf g.length g (bb ((r.length+(bA g).length)<=9223372036854775807) (some (r++(bA g))))))
def kM(N:Nat):Nat->TE->Int->Int->Int->Int->Int->Int->Int->Int->Int->TE->TK->Option bw:=aN [(.sl tE),tC,tC,tC,tC,tC,tC,tC,tC,tC,(.sl tE),(.sl .s)] (kR N)
def gB(N:Nat)(a:TH):Option bw:=kM N N a.2.2.2.2.2.2.2 (a.2.2.2.2.2.2.2.length:Int) 0 a.1 a.2.1 a.2.2.1 a.2.2.2.1 a.2.2.2.2.1 a.2.2.2.2.2.1 a.2.2.2.2.2.2.1 a.2.2.2.2.2.2.2 ([]:TK)
abbrev aNa(N:Nat):bx:=⟨77,⟨[(0,dd tA)],[],[]⟩,[⟨[(0,dd .s)],[],[]⟩],gB N⟩
theorem zW(N:Nat):aF Tryz.prog (aNa N):=xf N (tc (rJ N) (tc (yQ N) (tc (zE N) tn))) [33] [⟨10,true,⟨[(1,.ptr (.O 0) 0),(3,.slw (.O 1) .s 0),(5,.ptr (.O 2) 0),(6,dd tC),(9,dd (.sl tE)),(10,dd tC),(11,dd tC)],[],[some (.box [dd tC,dd tC,dd tC,dd tC,dd tC,dd tC,dd tC,dd (.sl tE)]),some (.row true .s []),some (.box [dd tC,dd .b,dd .s,dd .s])]⟩⟩,⟨4,false,⟨[(1,.ptr (.O 0) 0),(3,.slw (.O 1) .s 0),(9,dd (.sl tE)),(10,dd tC),(11,dd tC)],[],[some (.box [dd tC,dd tC,dd tC,dd tC,dd tC,dd tC,dd tC,dd (.sl tE)]),some (.row true .s [])]⟩⟩] 0 Tryz.func77 rfl (by kernel_rfl) fun a=>by kernel_rfl
def jK(N:Nat)(g:TA->Int->Int->TK->Option TK)(e:TA)(f c:Int)(a:TK):Option TK:=bk (decide (c<f)) (bB e c fun b=>bj (gB N b) fun d=>bf a.length a (bb (((a.length+[d].length)*16)<=140737488355328) (ck .i64 (c+1) (bf ((a++[d]).length) (a++[d]) (g e f (c+1) (a++[d])))))) (bf a.length a (some a))
def jS(N:Nat):Nat->TA->Int->Int->TK->Option TK:=aN [(.sl tA),tC,tC,(.sl .s)] (jK N)
def jQ(N:Nat)(rec2:TG->Int->Int->Int->TG->TA->TK->Option TK)(f:TG)(g c h:Int)(i:TG)(e:TA)(a:TK):Option TK:=bk (decide (c<g)) (bB f c fun b=>bj (gC N b) fun d=>bf a.length a (bb (((a.length+[d].length)*16)<=140737488355328) (ck .i64 (c+1) (bf ((a++[d]).length) (a++[d]) (rec2 f g (c+1) h i e (a++[d])))))) (bf a.length a (jS N N e (e.length:Int) 0 a))
def jM(N:Nat):Nat->TG->Int->Int->Int->TG->TA->TK->Option TK:=aN [(.sl tB),tC,tC,tC,(.sl tB),(.sl tA),(.sl .s)] (jQ N)
def gH(N:Nat)(a:TF):Option TK:=jM N N a.2.1 (a.2.1.length:Int) 0 a.1 a.2.1 a.2.2 ([]:TK)
abbrev aIj(N:Nat):bx:=⟨44,⟨[(0,dd tD)],[],[]⟩,[⟨[(0,.slw (.O 0) .s 0)],[],[some (.row true .s [])]⟩],gH N⟩
theorem xR(N:Nat):aF Tryz.prog (aIj N):=xf N (tc (zP N) (tc (zW N) tn)) [19,32] [⟨11,false,⟨[(3,.slw (.O 0) .s 0),(22,dd (.sl tA)),(23,dd tC),(24,dd tC)],[],[some (.row true .s [])]⟩⟩,⟨4,false,⟨[(1,.ptr (.O 0) 0),(3,.slw (.O 1) .s 0),(9,dd (.sl tB)),(10,dd tC),(11,dd tC)],[],[some (.box [dd tC,dd (.sl tB),dd (.sl tA)]),some (.row true .s [])]⟩⟩] 0 Tryz.func44 rfl (by kernel_rfl) fun a=>by kernel_rfl
def lC(N:Nat)(a:TB)(b:TJ):Option (Bool×TJ):=bj (gC N a) fun c=>some ((!((dA b c).getD false)),b)
abbrev aBk(N:Nat):bx:=⟨73,⟨[(0,dd tB),(1,.ptr (.B 0) 0)],[some (.box [.mref (.B 1)]),some (.mp false .s .b [] none none)],[]⟩,[⟨[(0,dd .b)],[some (.box [.mref (.O 0)]),none],[some (.mp false .s .b [] none none)]⟩],lC N⟩
theorem VJ(N:Nat):aF Tryz.prog (aBk N):=xf N (tc (zP N) tn) [] [] 1 Tryz.func73 rfl (by kernel_rfl) fun a=>by kernel_rfl
def eP(N:Nat)(rec3:TG->Int->Int->TG->TJ->Option (TG×TJ))(e:TG)(f d:Int)(b:TG)(h:TJ):Option (TG×TJ):=bk (decide (d<f)) (bj (bB e d fun a=>bj (lC N a h) fun g=>bk g.1 (bf b.length b (bb (((b.length+[a].length)*48)<=140737488355328) (bf ((b++[a]).length) (b++[a]) (some (e,f,d,(b++[a]),g.2))))) (bf b.length b (some (e,f,d,b,g.2)))) fun c=>ck .i64 (c.2.2.1+1) (bf c.2.2.2.1.length c.2.2.2.1 (rec3 c.1 c.2.1 (c.2.2.1+1) c.2.2.2.1 c.2.2.2.2))) (bf b.length b (some (b,h)))
def eM(N:Nat):Nat->TG->Int->Int->TG->TJ->Option (TG×TJ):=aN [(.sl tB),tC,tC,(.sl tB),(.sl (.p .s .b))] (eP N)
def iH(N:Nat)(a:TG)(b:TJ):Option (TG×TJ):=eM N N a (a.length:Int) 0 ([]:TG) b
abbrev vG(N:Nat):bx:=⟨72,⟨[(0,dd (.sl tB)),(1,.clo 73 [.ptr (.B 0) 0])],[some (.box [.mref (.B 1)]),some (.mp false .s .b [] none none)],[]⟩,[⟨[(0,.slw (.O 0) tB 0)],[some (.box [.mref (.O 1)]),none],[some (.row true tB []),some (.mp false .s .b [] none none)]⟩],iH N⟩
theorem vR(N:Nat):aF Tryz.prog (vG N):=xf N (tc (VJ N) tn) [16,5000073,20] [⟨7,true,⟨[(1,.clo 73 [.ptr (.B 0) 0]),(5,.slw (.O 0) tB 0),(8,dd (.sl tB)),(9,dd tC),(10,dd tC)],[some (.box [.mref (.O 1)]),none],[some (.row true tB []),some (.mp false .s .b [] none none)]⟩⟩,⟨4,false,⟨[(1,.clo 73 [.ptr (.B 0) 0]),(5,.slw (.O 0) tB 0),(8,dd (.sl tB)),(9,dd tC),(10,dd tC)],[some (.box [.mref (.O 1)]),none],[some (.row true tB []),some (.mp false .s .b [] none none)]⟩⟩] 1 Tryz.func72 rfl (by kernel_rfl) fun a=>by kernel_rfl
def lF(N:Nat)(a:TH)(b:TJ):Option (Bool×TJ):=bj (gB N a) fun c=>some ((!((dA b c).getD false)),b)
abbrev Zb(N:Nat):bx:=⟨76,⟨[(0,dd tA),(1,.ptr (.B 0) 0)],[some (.box [.mref (.B 1)]),some (.mp false .s .b [] none none)],[]⟩,[⟨[(0,dd .b)],[some (.box [.mref (.O 0)]),none],[some (.mp false .s .b [] none none)]⟩],lF N⟩
theorem ZN(N:Nat):aF Tryz.prog (Zb N):=xf N (tc (zW N) tn) [] [] 1 Tryz.func76 rfl (by kernel_rfl) fun a=>by kernel_rfl
def eT(N:Nat)(rec3:TA->Int->Int->TA->TJ->Option (TA×TJ))(e:TA)(f d:Int)(b:TA)(h:TJ):Option (TA×TJ):=bk (decide (d<f)) (bj (bB e d fun a=>bj (lF N a h) fun g=>bk g.1 (bf b.length b (bb (((b.length+[a].length)*80)<=140737488355328) (bf ((b++[a]).length) (b++[a]) (some (e,f,d,(b++[a]),g.2))))) (bf b.length b (some (e,f,d,b,g.2)))) fun c=>ck .i64 (c.2.2.1+1) (bf c.2.2.2.1.length c.2.2.2.1 (rec3 c.1 c.2.1 (c.2.2.1+1) c.2.2.2.1 c.2.2.2.2))) (bf b.length b (some (b,h)))
def eO(N:Nat):Nat->TA->Int->Int->TA->TJ->Option (TA×TJ):=aN [(.sl tA),tC,tC,(.sl tA),(.sl (.p .s .b))] (eT N)
def iO(N:Nat)(a:TA)(b:TJ):Option (TA×TJ):=eO N N a (a.length:Int) 0 ([]:TA) b
abbrev vO(N:Nat):bx:=⟨75,⟨[(0,dd (.sl tA)),(1,.clo 76 [.ptr (.B 0) 0])],[some (.box [.mref (.B 1)]),some (.mp false .s .b [] none none)],[]⟩,[⟨[(0,.slw (.O 0) tA 0)],[some (.box [.mref (.O 1)]),none],[some (.row true tA []),some (.mp false .s .b [] none none)]⟩],iO N⟩
theorem uT(N:Nat):aF Tryz.prog (vO N):=xf N (tc (ZN N) tn) [16,5000076,20] [⟨7,true,⟨[(1,.clo 76 [.ptr (.B 0) 0]),(5,.slw (.O 0) tA 0),(8,dd (.sl tA)),(9,dd tC),(10,dd tC)],[some (.box [.mref (.O 1)]),none],[some (.row true tA []),some (.mp false .s .b [] none none)]⟩⟩,⟨4,false,⟨[(1,.clo 76 [.ptr (.B 0) 0]),(5,.slw (.O 0) tA 0),(8,dd (.sl tA)),(9,dd tC),(10,dd tC)],[some (.box [.mref (.O 1)]),none],[some (.row true tA []),some (.mp false .s .b [] none none)]⟩⟩] 1 Tryz.func75 rfl (by kernel_rfl) fun a=>by kernel_rfl
def iF(N:Nat)(l:Int->Int->Int->TG->TA->Int->TK->TG->TA->TJ->Option TO)(j d a:Int)(b:TG)(c:TA)(m:Int)(e:TK)(g:TG)(h:TA)(k:TJ):Option TO:=bk (decide (d<j)) (bb (0<=d) (bb (d<(e.length:Int)) (cw e d.toNat fun n=>ck .i64 (d+1) (bf e.length e (bf g.length g (bf h.length h (l j (d+1) a b c m e g h (iZ k n true)))))))) (bj (iH N b k) fun f=>bb (a=a) (bb (b=b) (bb (c=c) (bj (iO N c f.2) fun i=>bb (a=a) (bb (b=b) (bb (c=c) (bb (a=a) (bb (b=b) (bb (c=c) (bf f.1.length f.1 (bf i.1.length i.1 (some (a,(f.1,(i.1,0)))))))))))))))
def iB(N:Nat):Nat->Int->Int->Int->TG->TA->Int->TK->TG->TA->TJ->Option TO:=aN [tC,tC,tC,(.sl tB),(.sl tA),tC,(.sl .s),(.sl tB),(.sl tA),(.sl (.p .s .b))] (iF N)
def cN(N:Nat)(a b:TF):Option TO:=bj (cI N a b) fun d=>bk (d !=0) (some (0,(([]:TG),(([]:TA),d)))) (bj (gH N a) fun c=>bf c.length c (iB N N (c.length:Int) 0 b.1 b.2.1 b.2.2 0 c ([]:TG) ([]:TA) ([]:TJ)))
abbrev Vi(N:Nat):bx:=⟨29,⟨[(0,dd tD),(1,dd tD)],[],[]⟩,[⟨[(0,.agg [dd tC,dd (.sl tB),dd (.sl tA)]),(1,dd tC)],[],[]⟩],cN N⟩
theorem sT(N:Nat):aF Tryz.prog (Vi N):=xf N (tc (sA N) (tc (xR N) (tc (vR N) (tc (uT N) tn)))) [5000075,28,29,30,31,34,35,5000072] [⟨8,false,⟨[(3,.ptr (.O 0) 0),(4,.ptr (.O 1) 0),(7,.ptr (.O 2) 0),(19,.slw (.O 3) .s 0),(20,dd tC),(21,dd tC)],[],[some (.box [dd tC,dd (.sl tB),dd (.sl tA)]),some (.box [dd tC,.slw (.O 4) tB 0,.slw (.O 5) tA 0]),some (.box [.mref (.O 6)]),some (.row true .s []),some (.row true tB []),some (.row true tA []),some (.mp false .s .b [] none none)]⟩⟩] 0 Tryz.func29 rfl (by kernel_rfl) fun a=>by kernel_rfl
def iA(i:TG->Int->Int->TU->TR->Option (Int×TR))(g:TG)(h f:Int)(c:TU)(d:TR):Option (Int×TR):=bk (decide (f<h)) (bj (bB g f fun b=>bj (bk ((dA c (b.1,b.2.1)).isSome) (bf d.length d (some (g,h,f,(!(mF [1,1,1,1,1] (((dA c (b.1,b.2.1)).getD (0,(0,(0,(0,(0,0)))))).1==b.1) (mF [1,1,1,1] (((dA c (b.1,b.2.1)).getD (0,(0,(0,(0,(0,0)))))).2.1==b.2.1) (mF [1,1,1] (((dA c (b.1,b.2.1)).getD (0,(0,(0,(0,(0,0)))))).2.2.1==b.2.2.1) (mF [1,1] (((dA c (b.1,b.2.1)).getD (0,(0,(0,(0,(0,0)))))).2.2.2.1==b.2.2.2.1) (mF [1] (((dA c (b.1,b.2.1)).getD (0,(0,(0,(0,(0,0)))))).2.2.2.2.1==b.2.2.2.2.1) (mF ([]:(List Nat)) (((dA c (b.1,b.2.1)).getD (0,(0,(0,(0,(0,0)))))).2.2.2.2.2==b.2.2.2.2.2) true))))))),c,d,b.1,b.2.1,b.2.2.1,b.2.2.2.1,b.2.2.2.2.1,b.2.2.2.2.2,((dA c (b.1,b.2.1)).getD (0,(0,(0,(0,(0,0)))))).1,((dA c (b.1,b.2.1)).getD (0,(0,(0,(0,(0,0)))))).2.1,((dA c (b.1,b.2.1)).getD (0,(0,(0,(0,(0,0)))))).2.2.1,((dA c (b.1,b.2.1)).getD (0,(0,(0,(0,(0,0)))))).2.2.2.1,((dA c (b.1,b.2.1)).getD (0,(0,(0,(0,(0,0)))))).2.2.2.2.1,((dA c (b.1,b.2.1)).getD (0,(0,(0,(0,(0,0)))))).2.2.2.2.2))) (bf d.length d (some (g,h,f,false,c,d,b.1,b.2.1,b.2.2.1,b.2.2.2.1,b.2.2.2.2.1,b.2.2.2.2.2,((dA c (b.1,b.2.1)).getD (0,(0,(0,(0,(0,0)))))).1,((dA c (b.1,b.2.1)).getD (0,(0,(0,(0,(0,0)))))).2.1,((dA c (b.1,b.2.1)).getD (0,(0,(0,(0,(0,0)))))).2.2.1,((dA c (b.1,b.2.1)).getD (0,(0,(0,(0,(0,0)))))).2.2.2.1,((dA c (b.1,b.2.1)).getD (0,(0,(0,(0,(0,0)))))).2.2.2.2.1,((dA c (b.1,b.2.1)).getD (0,(0,(0,(0,(0,0)))))).2.2.2.2.2)))) fun a=>bk a.2.2.2.1 (bf a.2.2.2.2.2.1.length a.2.2.2.2.2.1 (bb (((a.2.2.2.2.2.1.length+[((a.2.2.2.2.2.2.1,(a.2.2.2.2.2.2.2.1,(a.2.2.2.2.2.2.2.2.1,(a.2.2.2.2.2.2.2.2.2.1,(a.2.2.2.2.2.2.2.2.2.2.1,a.2.2.2.2.2.2.2.2.2.2.2.1))))),a.2.2.2.2.2.2.2.2.2.2.2.2)].length)*96)<=140737488355328) (bf ((a.2.2.2.2.2.1++[((a.2.2.2.2.2.2.1,(a.2.2.2.2.2.2.2.1,(a.2.2.2.2.2.2.2.2.1,(a.2.2.2.2.2.2.2.2.2.1,(a.2.2.2.2.2.2.2.2.2.2.1,a.2.2.2.2.2.2.2.2.2.2.2.1))))),a.2.2.2.2.2.2.2.2.2.2.2.2)]).length) (a.2.2.2.2.2.1++[((a.2.2.2.2.2.2.1,(a.2.2.2.2.2.2.2.1,(a.2.2.2.2.2.2.2.2.1,(a.2.2.2.2.2.2.2.2.2.1,(a.2.2.2.2.2.2.2.2.2.2.1,a.2.2.2.2.2.2.2.2.2.2.2.1))))),a.2.2.2.2.2.2.2.2.2.2.2.2)]) (some (a.1,a.2.1,a.2.2.1,a.2.2.2.2.1,(a.2.2.2.2.2.1++[((a.2.2.2.2.2.2.1,(a.2.2.2.2.2.2.2.1,(a.2.2.2.2.2.2.2.2.1,(a.2.2.2.2.2.2.2.2.2.1,(a.2.2.2.2.2.2.2.2.2.2.1,a.2.2.2.2.2.2.2.2.2.2.2.1))))),a.2.2.2.2.2.2.2.2.2.2.2.2)])))))) (bf a.2.2.2.2.2.1.length a.2.2.2.2.2.1 (some (a.1,a.2.1,a.2.2.1,a.2.2.2.2.1,a.2.2.2.2.2.1)))) fun e=>ck .i64 (e.2.2.1+1) (bf e.2.2.2.2.length e.2.2.2.2 (i e.1 e.2.1 (e.2.2.1+1) e.2.2.2.1 e.2.2.2.2))) (bf d.length d (some (0,d)))
def iD:Nat->TG->Int->Int->TU->TR->Option (Int×TR):=aN [(.sl tB),tC,tC,(.sl (.p tO tB)),(.sl tL)] (iA)
def gY(N:Nat)(rec4:TG->Int->Int->Int->TG->TA->TU->Option (Int×TR))(d:TG)(e b g:Int)(c:TG)(h:TA)(f:TU):Option (Int×TR):=bk (decide (b<e)) (bB d b fun a=>ck .i64 (b+1) (rec4 d e (b+1) g c h (iZ f (a.1,a.2.1) a))) (iD N c (c.length:Int) 0 f ([]:TR))
def hZ(N:Nat):Nat->TG->Int->Int->Int->TG->TA->TU->Option (Int×TR):=aN [(.sl tB),tC,tC,tC,(.sl tB),(.sl tA),(.sl (.p tO tB))] (gY N)
def cW(N:Nat)(a b:TF):Option (Int×TR):=bj (cI N a b) fun c=>bk (c !=0) (some (c,([]:TR))) (hZ N N b.2.1 (b.2.1.length:Int) 0 a.1 a.2.1 a.2.2 ([]:TU))
abbrev VO(N:Nat):bx:=⟨30,⟨[(0,dd tD),(1,dd tD)],[],[]⟩,[⟨[(0,.slw (.O 0) tL 0),(1,dd tC)],[],[some (.row true tL [])]⟩],cW N⟩
theorem tR(N:Nat):aF Tryz.prog (VO N):=xf N (tc (sA N) tn) [65] [⟨19,true,⟨[(7,.mref (.O 0)),(10,.slw (.O 1) tL 0),(38,dd (.sl tB)),(39,dd tC),(40,dd tC)],[],[some (.mp false tO tB [] none none),some (.row true tL [])]⟩⟩,⟨22,true,⟨[(7,.mref (.O 0)),(10,.slw (.O 1) tL 0),(12,.ptr (.O 2) 0),(13,.ptr (.O 3) 0),(38,dd (.sl tB)),(39,dd tC),(40,dd tC),(59,dd .b)],[],[some (.mp false tO tB [] none none),some (.row true tL []),some (.box [dd tC,dd tC,dd tC,dd tC,dd tC,dd tC]),some (.box [dd tC,dd tC,dd tC,dd tC,dd tC,dd tC])]⟩⟩,⟨16,false,⟨[(7,.mref (.O 0)),(10,.slw (.O 1) tL 0),(38,dd (.sl tB)),(39,dd tC),(40,dd tC)],[],[some (.mp false tO tB [] none none),some (.row true tL [])]⟩⟩,⟨8,false,⟨[(2,.ptr (.O 0) 0),(7,.mref (.O 1)),(23,dd (.sl tB)),(24,dd tC),(25,dd tC)],[],[some (.box [dd tC,dd (.sl tB),dd (.sl tA)]),some (.mp false tO tB [] none none)]⟩⟩] 0 Tryz.func30 rfl (by kernel_rfl) fun a=>by kernel_rfl
end Go.Proofs.Tryz
namespace Go.Proofs
open Go.Shelf
def Tryz.nn:Go.Shelf.Ren:=⟨fun|189=>91|125=>134|257=>133|128=>160|129=>161|294=>151|295=>152|296=>153|297=>154|298=>155|299=>156|216=>157|300=>158|301=>159|328=>177|329=>178|330=>179|331=>180|332=>181|215=>168|343=>189|n=>n,fun|28=>167|3=>3|46=>170|0=>0|51=>154|53=>157|4=>4|183=>233|182=>232|131=>230|5=>5|9=>9|218=>250|222=>254|228=>263|229=>264|n=>n,fun|n=>n⟩
theorem Tryz.qb:Go.Proofs.Lays.n189 Tryz.prog Tryz.nn:={
 mixed:=by kernel_rfl
 f125:=Tryz.func134.trans (congrArg some (by kernel_rfl))
 f128:=Tryz.func160.trans (congrArg some (by kernel_rfl))
 f129:=Tryz.func161.trans (congrArg some (by kernel_rfl))
 f189:=Tryz.func91.trans (congrArg some (by kernel_rfl))
 f215:=Tryz.func168.trans (congrArg some (by kernel_rfl))
 f216:=Tryz.func157.trans (congrArg some (by kernel_rfl))
 f257:=Tryz.func133.trans (congrArg some (by kernel_rfl))
 f294:=Tryz.func151.trans (congrArg some (by kernel_rfl))
 f295:=Tryz.func152.trans (congrArg some (by kernel_rfl))
 f296:=Tryz.func153.trans (congrArg some (by kernel_rfl))
 f297:=Tryz.func154.trans (congrArg some (by kernel_rfl))
 f298:=Tryz.func155.trans (congrArg some (by kernel_rfl))
 f299:=Tryz.func156.trans (congrArg some (by kernel_rfl))
 f300:=Tryz.func158.trans (congrArg some (by kernel_rfl))
 f301:=Tryz.func159.trans (congrArg some (by kernel_rfl))
 f328:=Tryz.func177.trans (congrArg some (by kernel_rfl))
 f329:=Tryz.func178.trans (congrArg some (by kernel_rfl))
 f330:=Tryz.func179.trans (congrArg some (by kernel_rfl))
 f331:=Tryz.func180.trans (congrArg some (by kernel_rfl))
 f332:=Tryz.func181.trans (congrArg some (by kernel_rfl))
 f343:=Tryz.func189.trans (congrArg some (by kernel_rfl))
 t0:=Tryz.underlying0
 a0:=Tryz.isAgg0
 z0:=Tryz.sizeOf0
 v0:=Tryz.zeroValue0
 t3:=Tryz.underlying3
 a3:=Tryz.isAgg3
 z3:=Tryz.sizeOf3
 v3:=Tryz.zeroValue3
 t4:=Tryz.underlying4
 a4:=Tryz.isAgg4
 z4:=Tryz.sizeOf4
 v4:=Tryz.zeroValue4
 t5:=Tryz.underlying5
 a5:=Tryz.isAgg5
 z5:=Tryz.sizeOf5
 v5:=Tryz.zeroValue5
 t9:=Tryz.underlying9
 a9:=Tryz.isAgg9
 z9:=Tryz.sizeOf9
 v9:=Tryz.zeroValue9
 t28:=Tryz.underlying167
 a28:=Tryz.isAgg167
 z28:=Tryz.sizeOf167
 v28:=Tryz.zeroValue167
 t46:=Tryz.underlying170
 a46:=Tryz.isAgg170
 z46:=Tryz.sizeOf170
 v46:=Tryz.zeroValue170
 t51:=Tryz.underlying154
 a51:=Tryz.isAgg154
 z51:=Tryz.sizeOf154
 v51:=Tryz.zeroValue154
 t53:=Tryz.underlying157
 a53:=Tryz.isAgg157
 z53:=Tryz.sizeOf157
 v53:=Tryz.zeroValue157
 t131:=Tryz.underlying230
 a131:=Tryz.isAgg230
 z131:=Tryz.sizeOf230
 v131:=Tryz.zeroValue230
 t182:=Tryz.underlying232
 a182:=Tryz.isAgg232
 z182:=Tryz.sizeOf232
 v182:=Tryz.zeroValue232
 t183:=Tryz.underlying233
 a183:=Tryz.isAgg233
 z183:=Tryz.sizeOf233
 v183:=Tryz.zeroValue233
 t218:=Tryz.underlying250
 a218:=Tryz.isAgg250
 z218:=Tryz.sizeOf250
 v218:=Tryz.zeroValue250
 t222:=Tryz.underlying254
 a222:=Tryz.isAgg254
 z222:=Tryz.sizeOf254
 v222:=Tryz.zeroValue254
 t228:=Tryz.underlying263
 a228:=Tryz.isAgg263
 z228:=Tryz.sizeOf263
 v228:=Tryz.zeroValue263
 t229:=Tryz.underlying264
 a229:=Tryz.isAgg264
 z229:=Tryz.sizeOf264
 v229:=Tryz.zeroValue264}
def Tryz.ox:Go.Shelf.Ren:=⟨fun|20=>92|n=>n,fun|22=>167|3=>3|4=>4|0=>0|n=>n,fun|n=>n⟩
theorem Tryz.so:Go.Proofs.Lays2.n20 Tryz.prog Tryz.ox:={
 mixed:=by kernel_rfl
 f20:=Tryz.func92.trans (congrArg some (by kernel_rfl))
 t0:=Tryz.underlying0
 a0:=Tryz.isAgg0
 z0:=Tryz.sizeOf0
 v0:=Tryz.zeroValue0
 t3:=Tryz.underlying3
 a3:=Tryz.isAgg3
 z3:=Tryz.sizeOf3
 v3:=Tryz.zeroValue3
 t4:=Tryz.underlying4
 a4:=Tryz.isAgg4
 z4:=Tryz.sizeOf4
 v4:=Tryz.zeroValue4
 t22:=Tryz.underlying167
 a22:=Tryz.isAgg167
 z22:=Tryz.sizeOf167
 v22:=Tryz.zeroValue167
 i3:=by kernel_rfl}
end Go.Proofs
namespace Go.Proofs.Tryz
open Go.Eng Go.RowKit Go.Sort Go.Shelf
variable{vs:Array Value}
def ins(x:Int):List Int->List Int
 |[]=>[x]
 |y::l=>if x<=y then x::y::l else y::ins x l
def nu:List Int->List Int
 |[]=>[]
 |x::l=>ins x (nu l)
theorem F4(x:Int):∀l:List Int,(ins x l).Perm (x::l)
 |[]=>.refl _
 |y::l=>by
  unfold ins;split
  ·exact .refl _
  ·exact((F4 x l).cons y).trans (.swap x y l)
theorem NG:∀l:List Int,(nu l).Perm l
 |[]=>.refl _
 |x::l=>(F4 x (nu l)).trans ((NG l).cons x)
theorem KF(x:Int):∀{l:List Int},l.Pairwise (· <=·)->(ins x l).Pairwise (· <=·)
 |[],_=>List.pairwise_singleton _ _
 |y::l,h=>by
  have h1:=aav.1 h;unfold ins;split
  ·rename_i hxy;exact aav.2 ⟨fun z hz=>by
    rcases υ.1 hz with rfl|hz
    ·exact hxy
    ·exact Int.le_trans hxy (h1.1 z hz),h⟩
  ·refine aav.2 ⟨fun z hz=>?_,KF x h1.2⟩;rcases υ.1 ((F4 x l).mem_iff.1 hz)with rfl|hz
   ·omega
   ·exact h1.1 z hz
theorem NH:∀l:List Int,(nu l).Pairwise (· <=·)
 |[]=>.nil
 |x::l=>KF x (NH l)
theorem bPb(l:List Int):nu l=l.mergeSort fun x y=>decide (x<=y):=by refine List.Perm.eq_of_pairwise (le:=fun a b:Int=>a<=b) (fun _ _ _ _ h1 h2=>Int.le_antisymm h1 h2) (NH l) ?_ ((NG l).trans (List.mergeSort_perm l _).symm);have:=List.pairwise_mergeSort (le:=fun x y:Int=>decide (x<=y)) (fun a b c h1 h2=>by simp only[decide_eq_true_eq]at*;omega) (fun a b=>by simp only[Bool.or_eq_true,decide_eq_true_eq];omega) l;exact this.imp fun h=>of_decide_eq_true h
def oM(_N:Nat)(xs:List Int):Option (List Int):=if xs.length<4611686018427387904 then some (nu xs)else none
abbrev oK(N:Nat):bx:=⟨91,⟨[(0,.slw (.B 0) (.i .i64) 0)],[some (.row true (.i .i64) [])],[]⟩,[⟨[],[some (.row true (.i .i64) [])],[]⟩],oM N⟩
def nQ(xs:List Int):List (List DV):=xs.map fun x=>[DV.I .i64 x]
theorem OZ{G:Gh}{xs:List Int}(h:DV.rows G (fun o=>vs[o]?) 1 0 (nQ xs)):vs.toList.take xs.length=xs.map (Value.int .i64):=by
 apply abO;intro j;by_cases hj:j<xs.length
 ·rw[aaH hj,aai];have h1:(nQ xs)[j]?=some [DV.I .i64 xs[j]]:=by simp[nQ,hj]
  obtain⟨_,h2⟩:=DV.iz h h1;obtain⟨⟨v,h3,h4⟩,_⟩:=h2;have h5:v=.int .i64 xs[j]:=h4;subst h5;rw[show 0+j*1=j by omega]at h3;have h3:vs[j]?=_:=h3;rw[h3];simp[hj]
 ·rw[List.getElem?_take_eq_none (by omega),aay (by simp;omega)]
theorem J8{G:Gh}{vs:Array Value}:∀{xs:List Int} {o:Nat},(∀j (h:j<xs.length),vs[o+j]?=some (Value.int .i64 xs[j]))->DV.rows G (fun o=>vs[o]?) 1 o (nQ xs)
 |[],_,_=>trivial
 |x::xs,o,h=>by
  refine⟨rfl,⟨⟨.int .i64 x,?_,rfl⟩,trivial⟩,J8 fun j hj=>?_⟩
  ·have:=h 0 (by simp);simpa using this
  ·have:=h (j+1) (by simpa using hj);rw[show o+1+j=o+(j+1) by omega,this];simp
theorem xZ(N:Nat):aF prog (oK N):=by
 rintro _ ⟨xs,⟨⟩⟩ r hF nbs hn;have hF:(if xs.length<4611686018427387904 then some (nu xs)else none)=some r:=hF;rw[bPb]at hF;split at hF
 rotate_left
 ·cases hF
 rename_i hlen;cases hF;have hn:nbs.map some=([]:List (Option bp)):=hn;obtain rfl:nbs=[]:=abR.1 hn;show df prog 91 [.sl (.B 0) 1 0 xs.length] [some (.row true 1 (nQ xs))] (.cr []) [some (.row true 1 (nQ (xs.mergeSort fun x y=>decide (x<=y))))] [];intro w G m vs hS hm hr;obtain⟨v0,l0,hv0,⟨h1,loc,hloc,h2⟩,h3⟩:=hr;subst h3;have hlk:∀(b:bp) h bl,gD [some b] [] h=some bl->h=.B 0/\bl=b:=by
  intro b h bl e;cases h with
  |B i=>cases i with
   |zero=>cases e;exact⟨rfl,rfl⟩
   |succ i=>cases e
  |O i=>cases e
 have hnd:loc≠.dead:=by rintro rfl;cases hS.dead _ hloc
 have hfn:y9 prog 91:=⟨_,func91,rfl,rfl⟩;obtain rfl:vs=#[v0]:=by apply ac8;simpa using hv0
 refine .inl ⟨hfn,?_⟩;rcases h2 hnd with⟨a,rfl,h0⟩|⟨b,sz,cap,rfl,rfl,hc1,hc2⟩
 ·obtain rfl:xs=[]:=aas.1 h0;refine(Any.slices_Sort_int_none qb a 0 w).mono ?_;rintro e w' ⟨rfl,rfl⟩;have e:([]:List Int).mergeSort (fun x y=>decide (x<=y))=[]:=List.mergeSort_nil;rw[e];exact⟨_,rfl,G,m,hS,⟨_,rfl,rfl⟩,Fr.refl _ _ _ _,fun i=>dz.refl _,fun h l b h1 h2=>.inr ⟨h,l,h1,h2⟩,fun i _=>hm i⟩
 ·obtain⟨bl,hbl,hrep⟩:=hS.fk _ _ _ hloc;obtain⟨_,rfl⟩:=hlk _ _ _ hbl;obtain⟨cur,T,hb,hsz,hk,hrows,hG⟩:=hrep;have ht:=OZ hrows;have hle:xs.length<=cur.size:=by have:=congrArg List.length ht;simp at this;omega
  have hb0:b<w.heap.size:=(aad.1 hb).1;refine(Any.slices_Sort_int qb b (0*1) cap xs w (by rw[ac4];exact holds_of_blockI hb ht) hb0 hlen).mono ?_;rintro e w' ⟨rfl,n,os,rfl⟩;generalize hys:xs.mergeSort (fun x y=>decide (x<=y))=ys;have hl:ys.length=xs.length:=by rw[<-hys];exact List.length_mergeSort _
  have hb':=heap_sortedI (n:=n) (os:=os) ys.toArray hb;have hgr:=grownBy_sortedI (w:=w) (g:=b) (n:=n) (os:=os) ys.toArray;have hdr:TD w (Sort.grow (putRow (Value.int .i64) (Sort.ahead w n) b 0 ys.toArray) os):=⟨rfl,abL _ _⟩;rw[ac4];revert hb' hgr hdr;generalize Sort.grow (putRow (Value.int .i64) (Sort.ahead w n) b 0 ys.toArray) os=w';intro hb' hgr hdr;obtain⟨g1,g2,g3,g4,g5⟩:=hgr;refine⟨_,rfl,G,m,?_,⟨_,rfl,rfl⟩,⟨g1,hdr,g3,g4,fun b' hb1 ho=>?_,fun _ _ _ _=>rfl,Gh.le.refl G⟩,fun i=>dz.refl _,fun h l b h1 h2=>.inr ⟨h,l,h1,h2⟩,fun i _=>hm i⟩
  ·refine⟨?_,?_,hS.dc,?_,?_,hS.gl,?_⟩
   ·intro h b2 sz2 hm2;obtain⟨bl,hbl,_⟩:=hS.fk _ _ _ hm2;obtain⟨rfl,rfl⟩:=hlk _ _ _ hbl;rw[hloc]at hm2;cases hm2;refine⟨_,rfl,_,T,hb',by rw[putCells,Array.size_mapIdx];exact hsz,by simpa[nQ,hl]using hk,J8 fun j hj=>?_,hG⟩;have:=congrArg (fun l=>l[j]?) (take_putCellsI cur ys (by omega));simp only[aaH hj,aai]at this;rw[aal,this];simp[hj]
   ·intro h hm2;obtain⟨mt,k,e⟩:=hS.nil _ hm2;obtain⟨rfl,_⟩:=hlk _ _ _ e;rw[hloc]at hm2;cases hm2
   ·intro b2 o v hg;have hne:b≠b2:=by rintro rfl;rw[hG o]at hg;cases hg
    have:=hS.gh _ _ _ hg;have hlt:b2<w.heap.size:=by
     simp only[World.cell?]at this;cases hx:w.heap[b2]?with
     |none=>rw[hx]at this;simp at this
     |some _=>exact(aad.1 hx).1
    have he:=g5 b2 hlt (fun e=>hne (Option.some.inj e).symm);simp only[World.cell?,he]at this|-;exact this
   ·intro h hd;have:=hS.dead _ hd;cases h with
    |B i=>cases i with
     |zero=>cases this
     |succ i=>rfl
    |O i=>rfl
   ·intro h b2 sz2 fp hm2;obtain⟨bl,hbl,_⟩:=hS.dk _ _ _ _ hm2;obtain⟨rfl,_⟩:=hlk _ _ _ hbl;rw[hloc]at hm2;cases hm2
  ·exact g5 b' hb1 fun e=>ho (by cases e;exact Own.at_ hloc)
def lR(_N:Nat)(xs:List Int):Option (List Int):=if xs.length<=9223372036854775807 then some (Go.Lib.compact xs)else none
abbrev lT(N:Nat):bx:=⟨92,⟨[(0,.slw (.B 0) (.i .i64) 0)],[some (.row true (.i .i64) [])],[]⟩,[⟨[(0,.slw (.O 0) (.i .i64) 0)],[none],[some (.row true (.i .i64) [])]⟩],lR N⟩
theorem Nk(d:Array Int):∀m,(Go.Lib.compactUpTo d m).length<=m
 |0=>by simp[Go.Lib.compactUpTo]
 |m+1=>by rw[Go.Lib.compactUpTo_succ,ε];have:=Nk d m;split<;>simp<;>omega
theorem Us(zs:List Int):(Go.Lib.compact zs).length<=zs.length:=by have:=Nk zs.toArray zs.toArray.size;simpa[Go.Lib.compact]using this
theorem uM(N:Nat):aF prog (lT N):=by
 rintro _ ⟨xs,⟨⟩⟩ r hF nbs hn;have hF:(if xs.length<=9223372036854775807 then some (Go.Lib.compact xs)else none)=some r:=hF;split at hF
 rotate_left
 ·cases hF
 rename_i hlen;cases hF;have hn:nbs.map some=[some (bp.row true 1 (nQ (Go.Lib.compact xs)))]:=hn;obtain rfl:nbs=[bp.row true 1 (nQ (Go.Lib.compact xs))]:=by
  cases nbs with
  |nil=>cases hn
  |cons b l=>
   cases l with
   |nil=>cases hn;rfl
   |cons _ _=>cases hn
 show df prog 92 [.sl (.B 0) 1 0 xs.length] [some (.row true 1 (nQ xs))] (.sl (.O 0) 1 0 (Go.Lib.compact xs).length) [none] [bp.row true 1 (nQ (Go.Lib.compact xs))];generalize hys:Go.Lib.compact xs=ys;have hle0:ys.length<=xs.length:=by rw[<-hys];exact Us xs
 intro w G m vs hS hm hr;obtain⟨v0,l0,hv0,⟨h1,loc,hloc,h2⟩,h3⟩:=hr;subst h3;have hlk:∀(b:bp) h bl,gD [some b] [] h=some bl->h=.B 0/\bl=b:=by
  intro b h bl e;cases h with
  |B i=>cases i with
   |zero=>cases e;exact⟨rfl,rfl⟩
   |succ i=>cases e
  |O i=>cases e
 have hnd:loc≠.dead:=by rintro rfl;cases hS.dead _ hloc
 have hfn:y9 prog 92:=⟨_,func92,rfl,rfl⟩;obtain rfl:vs=#[v0]:=by apply ac8;simpa using hv0
 let m' (l:Go.Eng.Loc):HM:=fun h=>if h=.O 0 then some l else if h=.B 0 then some .dead else m h
 have hmO:∀l:Go.Eng.Loc,m' l (.O 0)=some l:=fun l=>if_pos rfl;have hmB:∀l:Go.Eng.Loc,m' l (.B 0)=some .dead:=fun l=>by show(if(Hd.B 0)=.O 0 then _ else _)=_;rw[if_neg (by simp),if_pos rfl]
 have hmo:∀l h,h≠.O 0->h≠.B 0->m' l h=m h:=fun l h a b=>by show(if h=.O 0 then _ else _)=_;rw[if_neg a,if_neg b]
 have hother:∀h l,h≠.B 0->m h=some l->l=.dead:=fun h l hb e=>by
  cases l with
  |dead=>rfl
  |none=>obtain⟨_,_,e2⟩:=hS.nil _ e;exact absurd (hlk _ _ _ e2).1 hb
  |at_ b sz=>obtain⟨_,e2,_⟩:=hS.fk _ _ _ e;exact absurd (hlk _ _ _ e2).1 hb
  |atx b sz fp=>obtain⟨_,e2,_⟩:=hS.dk _ _ _ _ e;exact absurd (hlk _ _ _ e2).1 hb
 have hsame:∀l i,dz (m (.B i)) (m' l (.B i)):=fun l i=>by
  by_cases e:i=0
  ·subst e;exact .inr (.inl ⟨by rw[hloc];exact fun e=>(by cases e),hmB l⟩)
  ·rw[hmo l _ (by simp) (by simpa using e)];exact dz.refl _
 have hlast:∀l i,gD [none] [bp.row true 1 (nQ ys)] (.O i)=none->m' l (.O i)=none:=fun l i e=>by
  cases i with
  |zero=>cases e
  |succ i=>rw[hmo l _ (by simp) (by simp)];exact hm _
 have hdead:∀l:Go.Eng.Loc,l≠.dead->∀h,m' l h=some .dead->gD [none] [bp.row true 1 (nQ ys)] h=none:=fun l hl h e=>by
  cases h with
  |B i=>cases i<;>rfl
  |O i=>cases i with
   |zero=>rw[hmO]at e;cases e;exact absurd rfl hl
   |succ i=>rfl
 refine .inl ⟨hfn,?_⟩;rcases h2 hnd with⟨a,rfl,h0⟩|⟨b,sz,cap,rfl,rfl,hc1,hc2⟩
 ·obtain rfl:xs=[]:=aas.1 h0;have hy:ys=[]:=aas.1 (by simpa using hle0);subst hy;refine(Any.slices_Compact_int_empty so a 0 w).mono ?_;rintro e w' ⟨rfl,rfl⟩;refine⟨_,rfl,G,m' .none,⟨?_,?_,?_,hS.gh,hdead _ (by simp),hS.gl,?_⟩,⟨rfl,_,hmO _,fun _=>.inl ⟨a,rfl,rfl⟩⟩,Fr.refl _ _ _ _,hsame _,?_,hlast _⟩
  ·intro h b sz e;by_cases e1:h=.O 0
   ·subst e1;rw[hmO]at e;cases e
   by_cases e2:h=.B 0
   ·subst e2;rw[hmB]at e;cases e
   rw[hmo _ _ e1 e2]at e;cases hother _ _ e2 e
  ·intro h e;by_cases e1:h=.O 0
   ·subst e1;exact⟨true,1,rfl⟩
   by_cases e2:h=.B 0
   ·subst e2;rw[hmB]at e;cases e
   rw[hmo _ _ e1 e2]at e;cases hother _ _ e2 e
  ·intro h h' l l' b e e' hb hb';have key:∀h l,m' .none h=some l->b∈l.gk->False:=fun h l e hb=>by
    by_cases e1:h=.O 0
    ·subst e1;rw[hmO]at e;cases e;cases hb
    by_cases e2:h=.B 0
    ·subst e2;rw[hmB]at e;cases e;cases hb
    rw[hmo _ _ e1 e2]at e;rw[hother _ _ e2 e]at hb;cases hb
   exact(key _ _ e hb).elim
  ·intro h b sz fp e;by_cases e1:h=.O 0
   ·subst e1;rw[hmO]at e;cases e
   by_cases e2:h=.B 0
   ·subst e2;rw[hmB]at e;cases e
   rw[hmo _ _ e1 e2]at e;cases hother _ _ e2 e
  ·intro h l b e hb;by_cases e1:h=.O 0
   ·subst e1;rw[hmO]at e;cases e;cases hb
   by_cases e2:h=.B 0
   ·subst e2;rw[hmB]at e;cases e;cases hb
   rw[hmo _ _ e1 e2]at e;rw[hother _ _ e2 e]at hb;cases hb
 ·obtain⟨bl,hbl,hrep⟩:=hS.fk _ _ _ hloc;obtain⟨_,rfl⟩:=hlk _ _ _ hbl;obtain⟨cur,T,hb,hsz,hk,hrows,hG⟩:=hrep;have ht:=OZ hrows;have hle:xs.length<=cur.size:=by have:=congrArg List.length ht;simp at this;omega
  have hb0:b<w.heap.size:=(aad.1 hb).1;refine(Any.slices_Compact_int so b (0*1) cap xs w (by rw[ac4];exact holds_of_blockI hb ht) hlen hc1).mono ?_;rintro e w' ⟨rfl,n,rfl⟩;rw[hys];obtain⟨zs,hzs⟩:∃zs,zs=ys++aag (xs.length-ys.length) 0:=⟨_,rfl⟩;rw[<-hzs];have hzl:zs.length=xs.length:=by rw[hzs];simp;omega
  have hgr0:Sort.grow (putRow (Value.int .i64) (Sort.ahead w n) b 0 zs.toArray) #[]=putRow (Value.int .i64) (Sort.ahead w n) b 0 zs.toArray:=by
   have:∀W:World,Sort.grow W #[]=W:=fun W=>by cases W;simp[Sort.grow]
   exact this _
  have hb':=heap_sortedI (n:=n) (os:=#[]) zs.toArray hb;have hgr:=grownBy_sortedI (w:=w) (g:=b) (n:=n) (os:=#[]) zs.toArray;rw[hgr0]at hb' hgr;rw[ac4];have hdr:TD w (putRow (Value.int .i64) (Sort.ahead w n) b 0 zs.toArray):=⟨rfl,abL _ _⟩;revert hb' hgr hdr;generalize putRow (Value.int .i64) (Sort.ahead w n) b 0 zs.toArray=w';intro hb' hgr hdr;obtain⟨g1,g2,g3,g4,g5⟩:=hgr;refine⟨_,rfl,G,m' (.at_ b sz),⟨?_,?_,?_,?_,hdead _ (by simp),hS.gl,?_⟩,⟨rfl,_,hmO _,fun _=>.inr ⟨b,sz,cap,rfl,by simp,by omega,hc2⟩⟩,⟨g1,hdr,g3,g4,fun b' hb1 ho=>?_,fun _ _ _ _=>rfl,Gh.le.refl G⟩,hsame _,?_,hlast _⟩
  ·intro h b2 sz2 e;by_cases e1:h=.O 0
   ·subst e1;rw[hmO]at e;cases e;refine⟨_,rfl,_,T,hb',by rw[putCells,Array.size_mapIdx];exact hsz,by simp[nQ]at hk|-;omega,J8 fun j hj=>?_,hG⟩;have:=congrArg (fun l=>l[j]?) (take_putCellsI cur zs (by omega));simp only[aaH (show j<zs.length by omega),aai]at this;rw[aal,this,hzs,aau,List.getElem?_append_left (by simpa using hj)];simp[hj]
   by_cases e2:h=.B 0
   ·subst e2;rw[hmB]at e;cases e
   rw[hmo _ _ e1 e2]at e;cases hother _ _ e2 e
  ·intro h e;by_cases e1:h=.O 0
   ·subst e1;rw[hmO]at e;cases e
   by_cases e2:h=.B 0
   ·subst e2;rw[hmB]at e;cases e
   rw[hmo _ _ e1 e2]at e;cases hother _ _ e2 e
  ·intro h h' l l' b2 e e' hb2 hb2';have key:∀h l,m' (.at_ b sz) h=some l->b2∈l.gk->h=.O 0:=fun h l e hb=>by
    by_cases e1:h=.O 0
    ·exact e1
    by_cases e2:h=.B 0
    ·subst e2;rw[hmB]at e;cases e;cases hb
    rw[hmo _ _ e1 e2]at e;rw[hother _ _ e2 e]at hb;cases hb
   rw[key _ _ e hb2,key _ _ e' hb2']
  ·intro b2 o v hg;have hne:b≠b2:=by rintro rfl;rw[hG o]at hg;cases hg
   have:=hS.gh _ _ _ hg;have hlt:b2<w.heap.size:=by
    simp only[World.cell?]at this;cases hx:w.heap[b2]?with
    |none=>rw[hx]at this;simp at this
    |some _=>exact(aad.1 hx).1
   have he:=g5 b2 hlt (fun e=>hne (Option.some.inj e).symm);simp only[World.cell?,he]at this|-;exact this
  ·intro h b2 sz2 fp e;by_cases e1:h=.O 0
   ·subst e1;rw[hmO]at e;cases e
   by_cases e2:h=.B 0
   ·subst e2;rw[hmB]at e;cases e
   rw[hmo _ _ e1 e2]at e;cases hother _ _ e2 e
  ·exact g5 b' hb1 fun e=>ho (by cases e;exact Own.at_ hloc)
  ·intro h l b2 e hb2;by_cases e1:h=.O 0
   ·subst e1;rw[hmO]at e;cases e;exact .inr ⟨.B 0,_,hloc,hb2⟩
   by_cases e2:h=.B 0
   ·subst e2;rw[hmB]at e;cases e;cases hb2
   rw[hmo _ _ e1 e2]at e;rw[hother _ _ e2 e]at hb2;cases hb2
end Go.Proofs.Tryz
set_option maxRecDepth 8000
set_option synthInstance.maxSize 100000000
set_option synthInstance.maxHeartbeats 4000000
namespace Go.Proofs.Tryz
open Go.Eng Go.RowKit
def MU(N:Nat)(a:TG)(b:TA):Option (TG×TA):=some (a,b)
abbrev yF(N:Nat):bx:=⟨40,⟨[(0,dd (.sl tB)),(1,dd (.sl tA))],[],[]⟩,[⟨[(0,.clo 90 [.ptr (.O 0) 0,.ptr (.O 1) 0])],[],[some (.box [dd (.sl tB)]),some (.box [dd (.sl tA)])]⟩],MU N⟩
theorem aK9(N:Nat):aF Tryz.prog (yF N):=xf N tn [] [] 0 Tryz.func40 rfl (by kernel_rfl) fun a=>by kernel_rfl
def yY(N:Nat)(b:TB)(a:Int):Option (Bool×Int):=some ((b.2.2.2.2.2==a),a)
abbrev aKk(N:Nat):bx:=⟨88,⟨[(0,dd tB),(1,.ptr (.B 0) 0)],[some (.box [dd tC])],[]⟩,[⟨[(0,dd .b)],[some (.box [dd tC])],[]⟩],yY N⟩
theorem WS(N:Nat):aF Tryz.prog (aKk N):=xf N tn [] [] 1 Tryz.func88 rfl (by kernel_rfl) fun a=>by kernel_rfl
def rA(N:Nat)(rec3:TG->Int->Int->Int->TG->Option TT)(e:TG)(f d h:Int)(b:TG):Option TT:=bk (decide (d<f)) (bj (bB e d fun a=>bj (yY N a h) fun g=>bk g.1 (bf b.length b (bb (((b.length+[a].length)*48)<=140737488355328) (bf ((b++[a]).length) (b++[a]) (some (e,f,d,g.2,(b++[a])))))) (bf b.length b (some (e,f,d,g.2,b)))) fun c=>ck .i64 (c.2.2.1+1) (bf c.2.2.2.2.length c.2.2.2.2 (rec3 c.1 c.2.1 (c.2.2.1+1) c.2.2.2.1 c.2.2.2.2))) (bf b.length b (some (h,b)))
def qO(N:Nat):Nat->TG->Int->Int->Int->TG->Option TT:=aN [(.sl tB),tC,tC,tC,(.sl tB)] (rA N)
def lB(N:Nat)(a:TG)(b:Int):Option TT:=qO N N a (a.length:Int) 0 b ([]:TG)
abbrev sO(N:Nat):bx:=⟨72,⟨[(0,dd (.sl tB)),(1,.clo 88 [.ptr (.B 0) 0])],[some (.box [dd tC])],[]⟩,[⟨[(0,.slw (.O 0) tB 0)],[some (.box [dd tC])],[some (.row true tB [])]⟩],lB N⟩
theorem sQ(N:Nat):aF Tryz.prog (sO N):=xf N (tc (WS N) tn) [16,5000088,20] [⟨7,true,⟨[(1,.clo 88 [.ptr (.B 0) 0]),(5,.slw (.O 0) tB 0),(8,dd (.sl tB)),(9,dd tC),(10,dd tC)],[some (.box [dd tC])],[some (.row true tB [])]⟩⟩,⟨4,false,⟨[(1,.clo 88 [.ptr (.B 0) 0]),(5,.slw (.O 0) tB 0),(8,dd (.sl tB)),(9,dd tC),(10,dd tC)],[some (.box [dd tC])],[some (.row true tB [])]⟩⟩] 1 Tryz.func72 rfl (by kernel_rfl) fun a=>by kernel_rfl
def yL(N:Nat)(b:TH)(a:Int):Option (Bool×Int):=some ((b.2.2.2.1==a),a)
abbrev VQ(N:Nat):bx:=⟨89,⟨[(0,dd tA),(1,.ptr (.B 0) 0)],[some (.box [dd tC])],[]⟩,[⟨[(0,dd .b)],[some (.box [dd tC])],[]⟩],yL N⟩
theorem YP(N:Nat):aF Tryz.prog (VQ N):=xf N tn [] [] 1 Tryz.func89 rfl (by kernel_rfl) fun a=>by kernel_rfl
def rC(N:Nat)(rec3:TA->Int->Int->Int->TA->Option TS)(e:TA)(f d h:Int)(b:TA):Option TS:=bk (decide (d<f)) (bj (bB e d fun a=>bj (yL N a h) fun g=>bk g.1 (bf b.length b (bb (((b.length+[a].length)*80)<=140737488355328) (bf ((b++[a]).length) (b++[a]) (some (e,f,d,g.2,(b++[a])))))) (bf b.length b (some (e,f,d,g.2,b)))) fun c=>ck .i64 (c.2.2.1+1) (bf c.2.2.2.2.length c.2.2.2.2 (rec3 c.1 c.2.1 (c.2.2.1+1) c.2.2.2.1 c.2.2.2.2))) (bf b.length b (some (h,b)))
def qZ(N:Nat):Nat->TA->Int->Int->Int->TA->Option TS:=aN [(.sl tA),tC,tC,tC,(.sl tA)] (rC N)
def kZ(N:Nat)(a:TA)(b:Int):Option TS:=qZ N N a (a.length:Int) 0 b ([]:TA)
abbrev sL(N:Nat):bx:=⟨75,⟨[(0,dd (.sl tA)),(1,.clo 89 [.ptr (.B 0) 0])],[some (.box [dd tC])],[]⟩,[⟨[(0,.slw (.O 0) tA 0)],[some (.box [dd tC])],[some (.row true tA [])]⟩],kZ N⟩
theorem sN(N:Nat):aF Tryz.prog (sL N):=xf N (tc (YP N) tn) [16,5000089,20] [⟨7,true,⟨[(1,.clo 89 [.ptr (.B 0) 0]),(5,.slw (.O 0) tA 0),(8,dd (.sl tA)),(9,dd tC),(10,dd tC)],[some (.box [dd tC])],[some (.row true tA [])]⟩⟩,⟨4,false,⟨[(1,.clo 89 [.ptr (.B 0) 0]),(5,.slw (.O 0) tA 0),(8,dd (.sl tA)),(9,dd tC),(10,dd tC)],[some (.box [dd tC])],[some (.row true tA [])]⟩⟩] 1 Tryz.func75 rfl (by kernel_rfl) fun a=>by kernel_rfl
def wW(N:Nat)(d:TG)(e:TA)(c:Int):Option TF:=bj (lB N d c) fun a=>bb (c=a.1) (bj (kZ N e a.1) fun b=>bb (a.1=b.1) (bf a.2.length a.2 (bf b.2.length b.2 (some (c,(a.2,b.2))))))
abbrev MR(N:Nat):bx:=⟨39,⟨[(0,dd (.sl tB)),(1,dd (.sl tA)),(2,dd tC)],[],[]⟩,[⟨[(0,.agg [dd tC,.slw (.O 0) tB 0,.slw (.O 1) tA 0])],[],[some (.row true tB []),some (.row true tA [])]⟩],wW N⟩
theorem Qv(N:Nat):aF Tryz.prog (MR N):=xf N (tc (sQ N) (tc (sN N) tn)) [5000075,7,5000072] [] 0 Tryz.func39 rfl (by kernel_rfl) fun a=>by kernel_rfl
def ZB(N:Nat)(i:Int->Int->Int->TC->TG->TA->TN->TN->Option TW)(f c j:Int)(d:TC)(g:TG)(h:TA)(e b:TN):Option TW:=bk (decide (c<f)) (bb (0<=c) (bb (c<(d.length:Int)) (cw d c.toNat fun k=>bj (wW N g h k) fun a=>bf a.2.1.length a.2.1 (bf a.2.2.length a.2.2 (bf b.length b (bb (((b.length+[a].length)*56)<=140737488355328) (ck .i64 (c+1) (bf d.length d (bf e.length e (bf ((b++[a]).length) (b++[a]) (i f (c+1) j d g h e (b++[a])))))))))))) (bf b.length b (some (0,b)))
def Wq(N:Nat):Nat->Int->Int->Int->TC->TG->TA->TN->TN->Option TW:=aN [tC,tC,tC,(.sl tC),(.sl tB),(.sl tA),(.sl tD),(.sl tD)] (ZB N)
def XQ(N:Nat)(m:TA->Int->Int->Int->TC->TG->TA->TN->TN->Option TW)(g:TA)(h d i:Int)(a:TC)(j:TG)(k:TA)(b c:TN):Option TW:=bk (decide (d<h)) (bB g d fun e=>bf a.length a (bb (((a.length+[e.2.2.2.1].length)*8)<=140737488355328) (ck .i64 (d+1) (bf ((a++[e.2.2.2.1]).length) (a++[e.2.2.2.1]) (bf b.length b (bf c.length c (m g h (d+1) i (a++[e.2.2.2.1]) j k b c))))))) (bf a.length a (bj (oM N a) fun l=>bf a.length l (bj (lR N l) fun f=>bf f.length f (bf b.length b (bf c.length c (Wq N N (f.length:Int) 0 i f j k b c))))))
def Zm(N:Nat):Nat->TA->Int->Int->Int->TC->TG->TA->TN->TN->Option TW:=aN [(.sl tA),tC,tC,tC,(.sl tC),(.sl tB),(.sl tA),(.sl tD),(.sl tD)] (XQ N)
def Yn(N:Nat)(l:TG->Int->Int->Int->TA->TC->TG->TA->TN->TN->Option TW)(g:TG)(h d i:Int)(f:TA)(a:TC)(j:TG)(k:TA)(b c:TN):Option TW:=bk (decide (d<h)) (bB g d fun e=>bf a.length a (bb (((a.length+[e.2.2.2.2.2].length)*8)<=140737488355328) (ck .i64 (d+1) (bf ((a++[e.2.2.2.2.2]).length) (a++[e.2.2.2.2.2]) (bf b.length b (bf c.length c (l g h (d+1) i f (a++[e.2.2.2.2.2]) j k b c))))))) (bf a.length a (bf b.length b (bf c.length c (Zm N N f (f.length:Int) 0 i a j k b c))))
def aDg(N:Nat):Nat->TG->Int->Int->Int->TA->TC->TG->TA->TN->TN->Option TW:=aN [(.sl tB),tC,tC,tC,(.sl tA),(.sl tC),(.sl tB),(.sl tA),(.sl tD),(.sl tD)] (Yn N)
def xJ(N:Nat)(a:TG)(b:TA):Option TW:=bj (gJ N a b) fun d=>bk (d !=0) (some (d,([]:TN))) (bj (MU N a b) fun c=>aDg N N c.1 (c.1.length:Int) 0 0 c.2 ([]:TC) a b ([]:TN) ([]:TN))
abbrev aIa(N:Nat):bx:=⟨12,⟨[(0,dd (.sl tB)),(1,dd (.sl tA))],[],[]⟩,[⟨[(0,.slw (.O 0) tD 0),(1,dd tC)],[],[some (.row true tD [])]⟩],xJ N⟩
theorem YJ(N:Nat):aF Tryz.prog (aIa N):=Ld N (T:=[xW N,yF N,oK N,lT N,MR N]) ⟨qC N,aK9 N,xZ N,uM N,Qv N,trivial⟩ [5000092,5000091,25] [⟨900017,false,⟨[(0,.yld),(38,.slw (.O 0) tC 0),(39,dd tC),(40,dd tC),(49,.gst .go),(52,.ptr (.O 1) 0),(53,.ptr (.O 2) 0),(54,.slw (.O 3) tD 0),(55,dd tC),(57,.ptr (.O 4) 0)],[],[some (.row true tC []),some (.box [dd (.sl tB)]),some (.box [dd (.sl tA)]),some (.row true tD []),some (.box [.slw (.O 5) tD 0]),some (.row true tD [])]⟩⟩,⟨900010,false,⟨[(0,.yld),(4,.slw (.O 0) tC 0),(23,dd (.sl tA)),(24,dd tC),(25,dd tC),(49,.gst .go),(52,.ptr (.O 1) 0),(53,.ptr (.O 2) 0),(54,.slw (.O 3) tD 0),(55,dd tC),(57,.ptr (.O 4) 0)],[],[some (.row true tC []),some (.box [dd (.sl tB)]),some (.box [dd (.sl tA)]),some (.row true tD []),some (.box [.slw (.O 5) tD 0]),some (.row true tD [])]⟩⟩,⟨900003,false,⟨[(0,.yld),(2,.ptr (.O 0) 0),(4,.slw (.O 1) tC 0),(11,dd (.sl tB)),(12,dd tC),(13,dd tC),(49,.gst .go),(52,.ptr (.O 2) 0),(53,.ptr (.O 3) 0),(54,.slw (.O 4) tD 0),(55,dd tC),(57,.ptr (.O 5) 0)],[],[some (.box [dd (.sl tA)]),some (.row true tC []),some (.box [dd (.sl tB)]),some (.box [dd (.sl tA)]),some (.row true tD []),some (.box [.slw (.O 6) tD 0]),some (.row true tD [])]⟩⟩] 0 [(8,90,[46,1000000,21,33,5000092,5000091])] Tryz.func12 rfl rfl (by kernel_rfl) (by rw[Tryz.ntmps12];decide) (fun a=>by kernel_rfl)
set_option maxRecDepth 8000
set_option synthInstance.maxSize 100000000
set_option synthInstance.maxHeartbeats 4000000
def lX(rec2:Int->Int->TC->Int->Int->Option (uw⊕TM))(d e:Int)(f:TC)(g c:Int):Option (uw⊕TM):=bk (decide (c<g)) (bB f c fun h=>bj (bj (bk (c==9) (some (d,e,c,h,f,g,c,decide (h>1))) (some (d,e,c,h,f,g,c,false))) fun a=>bk a.2.2.2.2.2.2.2 (some (a.1,a.2.1,a.2.2.1,a.2.2.2.1,a.2.2.2.2.1,a.2.2.2.2.2.1,a.2.2.2.2.2.2.1,true)) (bk (decide (a.2.2.1>0)) (some (a.1,a.2.1,a.2.2.1,a.2.2.2.1,a.2.2.2.2.1,a.2.2.2.2.2.1,a.2.2.2.2.2.2.1,(a.2.2.2.1==0))) (some (a.1,a.2.1,a.2.2.1,a.2.2.2.1,a.2.2.2.2.1,a.2.2.2.2.2.1,a.2.2.2.2.2.2.1,false)))) fun b=>bk b.2.2.2.2.2.2.2 (zJ (some (0,(0,11)))) (ck .i64 (7*b.2.2.1) (bb (0<=(7*b.2.2.1)) (bb ((7*b.2.2.1)<=(((abQ .u64):Nat):Int)) (bk (decide (b.2.2.2.1<128)) (ck .i64 (b.2.2.1+1) (some (.inr ((bits .or .u64 b.1 (δ .u64 ((δ .u64 (bits .and .u8 b.2.2.2.1 127))*(2^(7*b.2.2.1).toNat)))),(b.2.2.1+1))))) (ck .i64 (b.2.2.2.2.2.2.1+1) (rec2 (bits .or .u64 b.1 (δ .u64 ((δ .u64 (bits .and .u8 b.2.2.2.1 127))*(2^(7*b.2.2.1).toNat)))) b.2.1 b.2.2.2.2.1 b.2.2.2.2.2.1 (b.2.2.2.2.2.2.1+1)))))))) (some (.inr (d,e)))
def jF:Nat->Int->Int->TC->Int->Int->Option (uw⊕TM):=aN [tK,tC,tH,tC,tC] (lX)
def gT(N:Nat)(b:TC):Option uw:=sn (jF N 0 0 b (b.length:Int) 0) fun a=>bk (a.2==0) (some (0,(0,10))) (ck .i64 (-(δ .i64 (bits .and .u64 a.1 1))) (some ((bits .xor .i64 (δ .i64 (a.1/(2^1))) (-(δ .i64 (bits .and .u64 a.1 1)))),(a.2,0))))
abbrev aNo(N:Nat):bx:=⟨46,⟨[(0,dd tH)],[],[]⟩,[⟨[(0,dd tC),(1,dd tC),(2,dd tC)],[],[]⟩],gT N⟩
theorem pG(N:Nat):aF Tryz.prog (aNo N):=xf N tn [] [⟨4,false,⟨[(5,dd tK),(6,dd tC)],[],[]⟩⟩,⟨12,true,⟨[(5,dd tK),(6,dd tC),(7,dd tC),(8,dd (.i .u8)),(9,dd tH),(10,dd tC),(11,dd tC),(24,dd .b)],[],[]⟩⟩,⟨13,true,⟨[(5,dd tK),(6,dd tC),(7,dd tC),(8,dd (.i .u8)),(9,dd tH),(10,dd tC),(11,dd tC),(24,dd .b)],[],[]⟩⟩,⟨6,false,⟨[(5,dd tK),(6,dd tC),(9,dd tH),(10,dd tC),(11,dd tC)],[],[]⟩⟩] 0 Tryz.func46 rfl (by kernel_rfl) fun a=>by kernel_rfl
def jG(N:Nat)(b:TC)(c:Int):Option uw:=bj (gT N b) fun a=>bk (a.2.2!=0) (some (0,(0,a.2.2))) (bk (decide (a.1<0)) (some (0,(0,11))) (ck .i64 ((b.length:Int)-a.2.1) (bb (c≠0) (ck .i64 (ac3 ((b.length:Int)-a.2.1) c) (bk (decide (a.1>(ac3 ((b.length:Int)-a.2.1) c))) (some (0,(0,10))) (some (a.1,(a.2.1,0))))))))
abbrev Ug(N:Nat):bx:=⟨136,⟨[(0,dd tH),(1,dd tC)],[],[]⟩,[⟨[(0,dd tC),(1,dd tC),(2,dd tC)],[],[]⟩],jG N⟩
theorem uJ(N:Nat):aF Tryz.prog (Ug N):=xf N (tc (pG N) tn) [] [] 0 Tryz.func136 rfl (by kernel_rfl) fun a=>by kernel_rfl
def ZW(N:Nat)(rec4:TC->Int->Int->Int->TC->Option TY)(d:TC)(c f e:Int)(a:TC):Option TY:=bk (decide (e<f)) (bb (0<=c) (bb (c.toNat<=d.length) (bb (d.length<=d.length) (bj (gT N (aaE (d.length-c.toNat) (aaV c.toNat d))) fun b=>bk (b.2.2!=0) (some (0,(b.2.2,([]:TC)))) (bf a.length a (bb (((a.length+[b.1].length)*8)<=140737488355328) (ck .i64 (c+b.2.1) (ck .i64 (e+1) (bf ((a++[b.1]).length) (a++[b.1]) (rec4 d (c+b.2.1) f (e+1) (a++[b.1]))))))))))) (bf a.length a (some (c,(0,a))))
def Y7(N:Nat):Nat->TC->Int->Int->Int->TC->Option TY:=aN [tH,tC,tC,tC,(.sl tC)] (ZW N)
def KB(N:Nat)(b:TC)(c:Int):Option TY:=bj (jG N b c) fun a=>bk (a.2.2!=0) (some (0,(a.2.2,([]:TC)))) (Y7 N N b a.2.1 a.1 0 ([]:TC))
abbrev Xo(N:Nat):bx:=⟨162,⟨[(0,dd tH),(1,dd tC),(2,.clo 46 [])],[],[]⟩,[⟨[(0,.slw (.O 0) tC 0),(1,dd tC),(2,dd tC)],[],[some (.row true tC [])]⟩],KB N⟩
theorem aM6(N:Nat):aF Tryz.prog (Xo N):=xf N (tc (uJ N) (tc (pG N) tn)) [44] [⟨8,false,⟨[(0,dd tH),(2,.clo 46 []),(10,dd tC),(12,.slw (.O 0) tC 0),(26,dd tC),(27,dd tC)],[],[some (.row true tC [])]⟩⟩] 0 Tryz.func162 rfl (by kernel_rfl) fun a=>by kernel_rfl
def zM(N:Nat)(b:TC):Option TY:=bj (KB N b 1) fun a=>bf a.2.2.length a.2.2 (some a)
abbrev aMv(N:Nat):bx:=⟨137,⟨[(0,dd tH)],[],[]⟩,[⟨[(0,.slw (.O 0) tC 0),(1,dd tC),(2,dd tC)],[],[some (.row true tC [])]⟩],zM N⟩
theorem ZH(N:Nat):aF Tryz.prog (aMv N):=xf N (tc (aM6 N) tn) [] [] 0 Tryz.func137 rfl (by kernel_rfl) fun a=>by kernel_rfl
def eK(N:Nat)(a:Bool):Option (Unit⊕Unit):=bk (!a) (some (.inr ())) (some (.inl ()))
abbrev MX(N:Nat):bx:=⟨99,⟨[(0,dd .b)],[],[]⟩,[⟨[],[],[]⟩,⟨[(1000000,.c (.iface 215 (.agg #[])))],[],[]⟩],eK N⟩
theorem yM(N:Nat):aF Tryz.prog (MX N):=xf N tn [] [] 0 Tryz.func99 rfl (by kernel_rfl) fun a=>by kernel_rfl
def xH(N:Nat)(b:TC):Option (bw×TM):=bj (jG N b 1) fun a=>bk (a.2.2!=0) (some (([]:bw),(0,a.2.2))) (ck .i64 (a.2.1+a.1) (bb (0<=(a.2.1+a.1)) (bb (0<=a.2.1) (bb (a.2.1.toNat<=(a.2.1+a.1).toNat) (bb ((a.2.1+a.1).toNat<=b.length) (ck .i64 (a.2.1+a.1) (some ((bA (aaE ((a.2.1+a.1).toNat-a.2.1.toNat) (aaV a.2.1.toNat b))),((a.2.1+a.1),0)))))))))
abbrev SK(N:Nat):bx:=⟨96,⟨[(0,dd tH)],[],[]⟩,[⟨[(0,dd .s),(1,dd tC),(2,dd tC)],[],[]⟩],xH N⟩
theorem SV(N:Nat):aF Tryz.prog (SK N):=xf N (tc (uJ N) tn) [] [] 0 Tryz.func96 rfl (by kernel_rfl) fun a=>by kernel_rfl
def Xf(N:Nat)(rec4:TC->Int->Int->Int->TK->Option TZ)(d:TC)(c f e:Int)(a:TK):Option TZ:=bk (decide (e<f)) (bb (0<=c) (bb (c.toNat<=d.length) (bb (d.length<=d.length) (bj (xH N (aaE (d.length-c.toNat) (aaV c.toNat d))) fun b=>bk (b.2.2!=0) (some (0,(b.2.2,([]:TK)))) (bf a.length a (bb (((a.length+[b.1].length)*16)<=140737488355328) (ck .i64 (c+b.2.1) (ck .i64 (e+1) (bf ((a++[b.1]).length) (a++[b.1]) (rec4 d (c+b.2.1) f (e+1) (a++[b.1]))))))))))) (bf a.length a (some (c,(0,a))))
def YK(N:Nat):Nat->TC->Int->Int->Int->TK->Option TZ:=aN [tH,tC,tC,tC,(.sl .s)] (Xf N)
def tX(N:Nat)(b:TC)(c:Int):Option TZ:=bj (jG N b c) fun a=>bk (a.2.2!=0) (some (0,(a.2.2,([]:TK)))) (YK N N b a.2.1 a.1 0 ([]:TK))
abbrev S0(N:Nat):bx:=⟨95,⟨[(0,dd tH),(1,dd tC),(2,.clo 96 [])],[],[]⟩,[⟨[(0,.slw (.O 0) .s 0),(1,dd tC),(2,dd tC)],[],[some (.row true .s [])]⟩],tX N⟩
theorem ZF(N:Nat):aF Tryz.prog (S0 N):=xf N (tc (uJ N) (tc (SV N) tn)) [44] [⟨8,false,⟨[(0,dd tH),(2,.clo 96 []),(10,dd tC),(12,.slw (.O 0) .s 0),(26,dd tC),(27,dd tC)],[],[some (.row true .s [])]⟩⟩] 0 Tryz.func95 rfl (by kernel_rfl) fun a=>by kernel_rfl
def nI(N:Nat)(b:TC):Option TZ:=bj (tX N b 1) fun a=>bf a.2.2.length a.2.2 (some a)
abbrev aD4(N:Nat):bx:=⟨47,⟨[(0,dd tH)],[],[]⟩,[⟨[(0,.slw (.O 0) .s 0),(1,dd tC),(2,dd tC)],[],[some (.row true .s [])]⟩],nI N⟩
theorem uB(N:Nat):aF Tryz.prog (aD4 N):=xf N (tc (ZF N) tn) [] [] 0 Tryz.func47 rfl (by kernel_rfl) fun a=>by kernel_rfl
def yI(N:Nat)(e:bw)(g h:Int)(f:Bool):Option ((TC×TK)⊕Unit):=bj (zM N (bE e)) fun b=>sn (bk (b.2.1==0) (bk ((b.2.2.length:Int)==h) (bb (0<(b.2.2.length:Int)) (cw b.2.2 (0) fun i=>bj (eK N (i==g)) fun j=>om j (fun p=>bf b.2.2.length b.2.2 (some (.inr (e,f,b.1,b.2.2)))) (fun b9=>zJ (some (.inr ()))))) (bj (eK N false) fun k=>om k (fun q=>bf b.2.2.length b.2.2 (some (.inr (e,f,b.1,b.2.2)))) (fun b12=>zJ (some (.inr ()))))) (bj (eK N false) fun l=>om l (fun r=>bf b.2.2.length b.2.2 (some (.inr (e,f,b.1,b.2.2)))) (fun b15=>zJ (some (.inr ()))))) fun a=>bk (!a.2.1) (bj (eK N (a.2.2.1==(a.1.length:Int))) fun m=>om m (fun s=>bf a.2.2.2.length a.2.2.2 (some (.inl (a.2.2.2,([]:TK))))) (fun b19=>some (.inr ()))) (bb (0<=a.2.2.1) (bb (a.2.2.1.toNat<=a.1.length) (bb (a.1.length<=a.1.length) (bj (nI N (bE (aaE (a.1.length-a.2.2.1.toNat) (aaV a.2.2.1.toNat a.1)))) fun c=>sn (bk (c.2.1==0) (ck .i64 (a.2.2.1+c.1) (bj (eK N ((a.2.2.1+c.1)==(a.1.length:Int))) fun n=>om n (fun t=>bf a.2.2.2.length a.2.2.2 (bf c.2.2.length c.2.2 (some (.inr (a.2.2.2,c.2.2))))) (fun b23=>zJ (some (.inr ()))))) (bj (eK N false) fun o=>om o (fun u=>bf a.2.2.2.length a.2.2.2 (bf c.2.2.length c.2.2 (some (.inr (a.2.2.2,c.2.2))))) (fun b26=>zJ (some (.inr ()))))) fun d=>bf d.1.length d.1 (bf d.2.length d.2 (some (.inl d)))))))
abbrev yZ(N:Nat):bx:=⟨98,⟨[(0,dd .s),(1,dd tC),(2,dd tC),(3,dd .b)],[],[]⟩,[⟨[(0,dd (.sl tC)),(1,dd (.sl .s))],[],[]⟩,⟨[(1000000,.c (.iface 215 (.agg #[])))],[],[]⟩],yI N⟩
theorem PM(N:Nat):aF Tryz.prog (yZ N):=xf N (tc (ZH N) (tc (yM N) (tc (uB N) tn))) [4000099] [⟨8,false,⟨[(10,.slw (.O 0) tC 0),(13,.slw (.O 1) .s 0)],[],[some (.row true tC []),some (.row true .s [])]⟩⟩,⟨2,false,⟨[(0,dd .s),(3,dd .b),(10,.slw (.O 0) tC 0),(11,dd tC)],[],[some (.row true tC [])]⟩⟩] 0 Tryz.func98 rfl (by kernel_rfl) fun a=>by kernel_rfl
def uC(N:Nat)(b:bw):Option (TB×Int):=bj (yI N b 1 7 false) fun c=>om c (fun a=>bB a.1 (1) fun d=>bB a.1 (2) fun e=>bB a.1 (3) fun f=>bB a.1 (4) fun g=>bB a.1 (5) fun h=>bB a.1 (6) fun i=>bj (qE N 0) fun j=>some ((d,(e,(f,(g,(h,i))))),j)) (fun b4=>bj (eI N 0) fun k=>some ((0,(0,(0,(0,(0,0))))),k))
abbrev Yt(N:Nat):bx:=⟨48,⟨[(0,dd .s)],[],[]⟩,[⟨[(0,dd tB),(1,dd tC)],[],[]⟩],uC N⟩
theorem WB(N:Nat):aF Tryz.prog (Yt N):=LF N (T:=[yZ N]) ⟨PM N,trivial⟩ [4000098,3000012,3000013,3000015,3000016,3000018,3000019,3000021,3000022,3000024,3000025,3000027,3000028] [] (gr:=pV N) (gp:=pX N) (pv:=lV) (xD N) (xS N) Tryz.func48 rfl rfl (by kernel_rfl) (by kernel_rfl) (by rw[Tryz.ntmps48];decide) (fun a=>by kernel_rfl)
def JO(N:Nat)(b:bw):Option (Int⊕Unit):=bj (gT N (bE b)) fun a=>sn (bk (a.2.2==0) (bj (eK N (a.2.1==(b.length:Int))) fun c=>om c (fun f=>some (.inr a.1)) (fun b5=>zJ (some (.inr ())))) (bj (eK N false) fun d=>om d (fun g=>some (.inr a.1)) (fun b8=>zJ (some (.inr ()))))) fun e=>some (.inl e)
abbrev Nr(N:Nat):bx:=⟨100,⟨[(0,dd .s)],[],[]⟩,[⟨[(0,dd tC)],[],[]⟩,⟨[(1000000,.c (.iface 215 (.agg #[])))],[],[]⟩],JO N⟩
theorem Vw(N:Nat):aF Tryz.prog (Nr N):=xf N (tc (pG N) (tc (yM N) tn)) [4000099] [⟨2,false,⟨[(3,dd tC)],[],[]⟩⟩] 0 Tryz.func100 rfl (by kernel_rfl) fun a=>by kernel_rfl
def aBf(N:Nat)(r:TC->TK->Int->Int->Int->Int->Int->Int->Int->Int->TE->TE->Option TP)(d:TC)(m:TK)(e f:Int)(g h:Int)(i j:Int)(k l:Int)(c a:TE):Option TP:=bk (decide ((m.length:Int)>0)) (bB m (0) fun s=>bB m (1) fun t=>bj (JO N s) fun u=>om u (fun q=>bj (JO N t) fun v=>om v (fun n=>sn (bk (n==0) (bj (eK N true) fun w=>om w (fun ak=>bf c.length c (bf a.length a (some (.inr (d,m,q,n,e,f,g,h,i,j,k,l,c,a))))) (fun b31=>zJ (bj (eI N l) fun x=>bf c.length c (some (e,(f,(g,(h,(i,(j,(k,(c,x)))))))))))) (bj (eK N (n==1)) fun y=>om y (fun al=>bf c.length c (bf a.length a (some (.inr (d,m,q,n,e,f,g,h,i,j,k,l,c,a))))) (fun b35=>zJ (bj (eI N l) fun z=>bf c.length c (some (e,(f,(g,(h,(i,(j,(k,(c,z))))))))))))) fun b=>bB b.2.1 (2) fun o=>bB b.2.1 (3) fun p=>bf b.2.2.2.2.2.2.2.2.2.2.2.2.2.length b.2.2.2.2.2.2.2.2.2.2.2.2.2 (bb (((b.2.2.2.2.2.2.2.2.2.2.2.2.2.length+[(b.2.2.1,((b.2.2.2.1==1),(o,p)))].length)*48)<=140737488355328) (bb (4<=b.2.1.length) (bb (b.2.1.length<=b.2.1.length) (bf b.2.2.2.2.2.2.2.2.2.2.2.2.1.length b.2.2.2.2.2.2.2.2.2.2.2.2.1 (bf ((b.2.2.2.2.2.2.2.2.2.2.2.2.2++[(b.2.2.1,((b.2.2.2.1==1),(o,p)))]).length) (b.2.2.2.2.2.2.2.2.2.2.2.2.2++[(b.2.2.1,((b.2.2.2.1==1),(o,p)))]) (r b.1 (aaE (b.2.1.length-4) (aaV 4 b.2.1)) b.2.2.2.2.1 b.2.2.2.2.2.1 b.2.2.2.2.2.2.1 b.2.2.2.2.2.2.2.1 b.2.2.2.2.2.2.2.2.1 b.2.2.2.2.2.2.2.2.2.1 b.2.2.2.2.2.2.2.2.2.2.1 b.2.2.2.2.2.2.2.2.2.2.2.1 b.2.2.2.2.2.2.2.2.2.2.2.2.1 (b.2.2.2.2.2.2.2.2.2.2.2.2.2++[(b.2.2.1,((b.2.2.2.1==1),(o,p)))])))))))) (fun b28=>bj (eI N l) fun aa=>bf c.length c (some (e,(f,(g,(h,(i,(j,(k,(c,aa))))))))))) (fun b25=>bj (eI N l) fun ab=>bf c.length c (some (e,(f,(g,(h,(i,(j,(k,(c,ab))))))))))) (bB d (1) fun ac=>bB d (2) fun ad=>bB d (3) fun ae=>bB d (4) fun af=>bB d (5) fun ag=>bB d (6) fun ah=>bB d (7) fun ai=>bb (a.length=a.length) (bb (a.length=a.length) (bb (a.length=a.length) (bb (a.length=a.length) (bb (a.length=a.length) (bb (a.length=a.length) (bb (a.length=a.length) (bb (a.length=a.length) (bb (a.length=a.length) (bb (a.length=a.length) (bb (a.length=a.length) (bb (a.length=a.length) (bb (a.length=a.length) (bb (a.length=a.length) (bb (a.length=a.length) (bb (a.length=a.length) (bb (a.length=a.length) (bj (qE N 0) fun aj=>bf a.length a (some (ac,(ad,(ae,(af,(ag,(ah,(ai,(a,aj)))))))))))))))))))))))))))
def US(N:Nat):Nat->TC->TK->Int->Int->Int->Int->Int->Int->Int->Int->TE->TE->Option TP:=aN [(.sl tC),(.sl .s),tC,tC,tC,tC,tC,tC,tC,tC,(.sl tE),(.sl tE)] (aBf N)
def sX(N:Nat)(b:bw):Option TP:=bj (yI N b 2 8 true) fun c=>om c (fun a=>bj (eK N ((abf (a.2.length:Int) 4)==0)) fun d=>om d (fun g=>US N N a.1 a.2 0 0 0 0 0 0 0 0 ([]:TE) ([]:TE)) (fun b7=>bj (eI N 0) fun e=>some (0,(0,(0,(0,(0,(0,(0,(([]:TE),e)))))))))) (fun b4=>bj (eI N 0) fun f=>some (0,(0,(0,(0,(0,(0,(0,(([]:TE),f)))))))))
abbrev aDd(N:Nat):bx:=⟨49,⟨[(0,dd .s)],[],[]⟩,[⟨[(0,.agg [dd tC,dd tC,dd tC,dd tC,dd tC,dd tC,dd tC,dd (.sl tE)]),(1,dd tC)],[],[]⟩],sX N⟩
theorem aC3(N:Nat):aF Tryz.prog (aDd N):=LF N (T:=[yZ N,MX N,Nr N]) ⟨PM N,yM N,Vw N,trivial⟩ [3000023,3000024,3000027,3000028,4000100,4000099,4000098,3000056,3000057,3000059,3000060,3000062,3000063,3000065,3000066,3000068,3000069,3000071,3000072,3000074,3000075,76,51] [⟨8,false,⟨[(2,.ptr (.O 0) 0),(3,.ptr (.O 1) 0),(4,dd (.sl tC)),(5,dd (.sl .s)),(6,.ptr (.O 2) 0),(7,dd tC),(8,dd tC),(86,.ptr (.O 1) 0)],[],[some (.box [dd tC,dd tC,dd tC,dd tC,dd tC,dd tC,dd tC,.slw (.O 3) tE 0]),some (.box [dd tC]),some (.box [.slw (.O 4) tE 0]),some (.row true tE []),some (.row true tE [])]⟩⟩,⟨4,false,⟨[(2,.ptr (.O 0) 0),(3,.ptr (.O 1) 0),(4,dd (.sl tC)),(5,dd (.sl .s)),(6,.ptr (.O 2) 0),(86,.ptr (.O 1) 0)],[],[some (.box [dd tC,dd tC,dd tC,dd tC,dd tC,dd tC,dd tC,.slw (.O 3) tE 0]),some (.box [dd tC]),some (.box [.slw (.O 4) tE 0]),some (.row true tE []),some (.row true tE [])]⟩⟩] (gr:=pV N) (gp:=pX N) (pv:=lV) (xD N) (xS N) Tryz.func49 rfl rfl (by kernel_rfl) (by kernel_rfl) (by rw[Tryz.ntmps49];decide) (fun a=>by kernel_rfl)
end Go.Proofs.Tryz
namespace Go.Proofs
open Go.Shelf
def Tryz.oe:Go.Shelf.Ren:=⟨fun|169=>45|n=>n,fun|70=>94|9=>9|0=>0|72=>96|37=>80|127=>172|3=>3|5=>5|n=>n,fun|n=>n⟩
end Go.Proofs
namespace Go.Proofs
open Go.Shelf Go.RowKit
theorem Tryz.qu:Builder.Extra Tryz.prog Tryz.oe where
 sizeBuilder:=by kernel_rfl
 liesBuilder:=by kernel_rfl
 t5:=Tryz.underlying5
 a5:=Tryz.isAgg5
 z5:=Tryz.sizeOf5
 v5:=Tryz.zeroValue5
 infoByte:=by kernel_rfl
 cellsByte:=by kernel_rfl
 sizeByte:=by kernel_rfl
 neB5:=by decide
set_option maxHeartbeats 1000000 in
set_option maxRecDepth 100000 in
theorem Tryz.uz(b:Nat)(w:World)(h0:w.cell? ⟨b,0,none⟩=some (.pointer (some ⟨b,0,none⟩))):
  Calls Tryz.prog 93 #[.pointer (some ⟨b,0,none⟩)] w fun e w'=>e=.returned (.tuple #[])/\w'=w:=by
 obtain⟨j,hj,_⟩:=ι.1 Tryz.qu.sizeBuilder
 go_enter Tryz.func93,Tryz.ntmps93
 go_wp2
 rw[Lib.run_neq_ptr_same w _ Tryz.underlying94 hj]
 go_wp2
 go_end0
 exact⟨rfl,rfl⟩
set_option maxHeartbeats 1000000 in
set_option maxRecDepth 100000 in
theorem Tryz.tg(b:Nat)(w:World)(h0:w.cell? ⟨b,0,none⟩=some (.pointer none))(hsh:w.shape? b=some (96,2))(hfz:w.frozen? ⟨b,0,none⟩=false):
  Calls Tryz.prog 93 #[.pointer (some ⟨b,0,none⟩)] w fun e w'=>e=.returned (.tuple #[])/\w'=w.setCell ⟨b,0,none⟩ (.pointer (some ⟨b,0,none⟩)):=by
 obtain⟨j,hj,hjs⟩:=ι.1 Tryz.qu.sizeBuilder
 go_enter Tryz.func93,Tryz.ntmps93
 go_wp2
 rw[Lib.run_to_unsafe w ⟨b,0,none⟩ Tryz.underlying94 Tryz.underlying212 hj (by rw[hjs];decide) hsh (Nat.zero_lt_succ 1)];simp only[Result.andThen];rw[Oper.upon_value]
 go_wp2
 rw[run_callFunc_extern Tryz.func135 (by kernel_rfl) (by kernel_rfl) (by kernel_rfl) (e:=Extern.AbiNoEscape.same) (by kernel_rfl)];rw[Lib.run_noEscape];simp only[Result.andThen];rw[Oper.upon_value]
 go_wp2
 rw[Lib.run_from_unsafe w ⟨b,0,none⟩ Tryz.underlying212 Tryz.underlying94 hj hsh Tryz.qu.liesBuilder];simp only[Result.andThen];rw[Oper.upon_value]
 go_wp2
 go_end0
 exact⟨rfl,rfl⟩
end Go.Proofs
namespace Go.Proofs
open Go.RowKit
variable{p:Program}
theorem Uo{at_:Addr}{u:TypeId}{a:Addr}{v:Value}{b:Bool}{w:World}{r:World×List Addr}(h:w.viewStore p at_ u a v b=.ok r):r.1.drawn=w.drawn:=by
 unfold World.viewStore at h;simp only[bind,Except.bind,pure,Except.pure]at h
 repeat' split at h
 all_goals first|(cases h;done)|(cases h;rfl)
theorem bDg{a:Addr}{v:Value}{b:Bool}{w w':World}{l:List Addr}(h:w.farStore p a v b=.ok (w',l)):w'.drawn=w.drawn:=by
 unfold World.farStore at h;split at h
 ·split at h
  ·rename_i r hr;cases h;exact Uo hr
  ·cases h
 ·cases h
theorem VF{α:Type}:∀(q:Ask α) (w:World),w.drawn<=(w.ask q).2.drawn:=fun q=>by
 induction q with
 |done a=>intro w;exact me _
 |ask what range k ih=>
  intro w;unfold World.ask;dsimp only;split
  ·exact ih _ _
  ·exact Nat.le_of_succ_le (ih _ {w with drawn:=w.drawn+1})
theorem Yj(w:World)(c:Sys):w.drawn<=(w.sys c).2.drawn:=by
 have h:=VF (Kernel.perform c w.os) w;unfold World.sys;split
 ·exact me _
 ·rename_i e;rw[e]at h;exact h
theorem WI(w:World)(a:Addr)(n:Nat):(w.freeze a n).drawn=w.drawn:=by
 unfold World.freeze
 repeat' split
 all_goals rfl
theorem Tw{P:Program}{α:Type}:∀(s:Sem α) (w w':World) (a:α),s.run P w=.ok a w'->w.drawn<=w'.drawn:=fun s=>by
  induction s with
  |pure a=>intro w w' b h;cases h;exact me _
  |halt h=>intro w w' b h;cases h
  | choose q k ih =>
    intro w w' b h;unfold Sem.run at h;split at h
    · exact ih _ _ _ _ h
    · exact Nat.le_of_succ_le (ih _ _ _ _ h)
  | load m a k ih =>
    intro w w' b h;unfold Sem.run at h;split at h
    · exact ih _ _ _ _ h
    · split at h
      · exact ih _ _ _ _ h
      · cases h
  | store m a v k ih =>
    intro w w' b h;cases v<;>unfold Sem.run at h<;>first
      |(cases h;done)
      | (split at h
         · split at h
           · cases h
           · have:=ih _ _ _ h;exact this
         · split at h
           · rename_i hf;have:=ih _ _ _ h;rw[bDg hf]at this;exact this
           · cases h)
  |new o k ih=>intro w w' b h;unfold Sem.run at h;have:=ih _ _ _ _ h;exact this
  |shape r k ih=>intro w w' b h;unfold Sem.run at h;exact ih _ _ _ _ h
  |freeze a n k ih=>intro w w' b h;unfold Sem.run at h;have:=ih _ _ _ h;rw[WI]at this;exact this
  |frozen a k ih=>intro w w' b h;unfold Sem.run at h;exact ih _ _ _ _ h
  | getObj r k ih =>
    intro w w' b h;unfold Sem.run at h;split at h
    · cases h
    · exact ih _ _ _ _ h
    · cases h
  | setObj r o k ih =>
    intro w w' b h;unfold Sem.run at h;split at h
    · cases h
    · have:=ih _ _ _ h;exact this
    · cases h
  | sys c k ih =>
    intro w w' b h;unfold Sem.run at h;exact Nat.le_trans (Yj w c) (ih _ _ _ _ h)
  |program k ih=>intro w w' b h;unfold Sem.run at h;exact ih _ _ _ _ h
  |mark m k ih=>intro w w' b h;unfold Sem.run at h;exact ih _ _ _ h
end Go.Proofs
namespace Go.Proofs
open Go.Shelf Go.RowKit
structure Tryz.Hn (b:Nat) (p:Value) (n:Nat) (xs:List Value) (w:World) (v:Value):Prop where
 fk:w.heap[b]?=some (.cells #[p,v] 96 (0,0))
 own:w.ownsRow 0 5 1 v n xs
 ne:v.ownBlock≠some b
theorem Tryz.yz(b:Nat)(us:Bool)(w:World)(v:Value)(hbk:w.heap[b]?=some (.cells #[.pointer (if us=true then some ⟨b,0,none⟩else none),v] 96 (0,0))):
  Calls Tryz.prog 93 #[.pointer (some ⟨b,0,none⟩)] w fun e w'=>e=.returned (.tuple #[])/\w'.heap[b]?=some (.cells #[.pointer (some ⟨b,0,none⟩),v] 96 (0,0))/\w.grownBy w' (some b)/\w'.heap.size=w.heap.size/\w'.drawn=w.drawn:=by
 cases us with
 |true=>
  refine(Tryz.uz b w (by rw[Lib.cell_of_heap hbk];rfl)).mono ?_;rintro e w' ⟨rfl,rfl⟩;exact⟨rfl,hbk,⟨rfl,rfl,rfl,me _,fun _ _ _=>rfl⟩,rfl,rfl⟩
 |false=>
  refine(Tryz.tg b w (by rw[Lib.cell_of_heap hbk];rfl) (by simp[World.shape?,hbk]) (Lib.frozen_of_heap hbk 0)).mono ?_;rintro e w' ⟨rfl,rfl⟩;refine⟨rfl,?_,⟨rfl,rfl,rfl,by simp[World.setCell],fun k _ hk=>Below.heap_setCell _ _ _ _ (fun e=>hk (by simp[e]))⟩,by simp[World.setCell],rfl⟩;simp[World.setCell,acx,hbk]
theorem Tryz.BG{ops:Array Oper}{rest:List Oper}{o:Oper}{a:Act}{Q:Exit->Act->World->Prop}(w:World)(hgd:o.guard=none)(s x:Operand)
  (ho:o.op=.call {callee:=.builtin .append,args:=#[s,x],argTypes:=#[80,80]}) (v:Value) (n:Nat) (xs:List Value) (hs:a.eval s=v) (hown:w.ownsRow 0 5 1 v n xs)
  (ad:Addr) (m c:Nat) (news:List Value) (hx:a.eval x=.slice (some ad) m c) (hl:news.length=m*1) (hnews:∀j u,news[j]?=some u->w.cell? (ad.add j)=some u) (h1:∀u∈news,u.oneCell'=true)
  (h63:n+m<=maxLen) (hb:(n+m)*1<=140737488355328)
  (h:∀v' w',w'.ownsRow 0 5 1 v' (n+m) (xs++news)->w.grownBy w' v.ownBlock->(v'=.slice none 0 0↔v=.slice none 0 0/\m=0)->(v'.ownBlock=v.ownBlock\/v'.ownBlock=some w.heap.size)->w.drawn<=w'.drawn->wpList Tryz.prog ops Q rest (a.put o.dst v') w'):
  wpList Tryz.prog ops Q (o::rest) a w:=by obtain⟨i0,hi,hz0,hz1,hz2⟩:=info_parts Tryz.qu.infoByte;refine wpList_plain hgd fun K hK=>?_;obtain⟨v',w',hr,h2,h3,h4,h5⟩:=run_append_own_at (P:=Tryz.prog) w 0 80 o.type 5 i0 _ 1 1 Tryz.underlying80 hi hz0 hz1 hz2 rfl (by decide) v n xs hown ad m c news hl hnews h1 h63 hb (aa2 _);unfold Oper.wp execOp;simp only[ho,resolve,invoke,builtin,Sem.run_bind,Sem.run_pure,Result.andThen_ok,List.map_toArray,aaN,List.map_nil,hs,hx,hr];exact hK _ _ (h v' w' h2 h3 h4 h5 (Tw _ _ _ _ hr))
set_option maxHeartbeats 2000000 in
set_option maxRecDepth 100000 in
theorem Tryz.vv(b:Nat)(us:Bool)(n:Nat)(xs:List Value)(v:Value)(w:World)(h:Tryz.Hn b (.pointer (if us=true then some ⟨b,0,none⟩else none)) n xs w v)
  (ad:Addr) (m c:Nat) (news:List Value) (hl:news.length=m) (hnews:∀j u,news[j]?=some u->w.cell? (ad.add j)=some u) (h1:∀u∈news,u.oneCell'=true) (had:ad.block≠b) (hlen:n+m<=140737488355328):
  Calls Tryz.prog 41 #[.pointer (some ⟨b,0,none⟩),.slice (some ad) m c] w fun e w'=>e=.returned (.tuple #[.int .i64 m,.nilIface])/\
   ∃v',Tryz.Hn b (.pointer (some ⟨b,0,none⟩)) (n+m) (xs++news) w' v'/\w'.os=w.os/\w'.tape=w.tape/\w'.output=w.output/\w.heap.size<=w'.heap.size/\(∀k,k<w.heap.size->k≠b->some k≠v.ownBlock->w'.heap[k]?=w.heap[k]?)/\(v'=.slice none 0 0↔v=.slice none 0 0/\m=0)/\w.drawn<=w'.drawn/\(v'.ownBlock=v.ownBlock\/v'.ownBlock=some w.heap.size):=by
 obtain⟨i0,hi,hz0,hz1,hz2⟩:=info_parts Tryz.qu.infoByte
 go_enter Tryz.func41,Tryz.ntmps41
 go_wp2_with (go_at_call 93;refine(Tryz.yz b us _ v h.fk).mono ?_)
 rintro e w1 ⟨rfl,hbk,hg1,hs1,hd1⟩;have hown:w1.ownsRow 0 5 1 v n xs:=by
  refine⟨h.own.1,?_⟩;rcases h.own.2 with hn|⟨g,cap,cur,q1,q2,q3,q4⟩
  ·exact .inl hn
  ·refine .inr ⟨g,cap,cur,q1,q2,?_,q4⟩;have hgb:g≠b:=fun e=>h.ne (by rw[q1];simp[Value.ownBlock,e]);rw[hg1.block g (aad.1 q3).1 (by simp[hgb])];exact q3
 have hadb:∀j,(ad.add j).block=ad.block:=fun j=>by unfold Addr.add;split<;>rfl
 have hnews1:∀j u,news[j]?=some u->w1.cell? (ad.add j)=some u:=fun j u hj=>by
  have q:=hnews j u hj;have hlt:ad.block<w.heap.size:=by
   rcases Nat.lt_or_ge ad.block w.heap.size with h'|h'
   ·exact h'
   ·have hz:w.heap[(ad.add j).block]?=none:=acp (by rw[hadb];exact h');simp[World.cell?,hz]at q
  have e:w1.heap[(ad.add j).block]?=w.heap[(ad.add j).block]?:=hg1.block _ (by rw[hadb];exact hlt) (by rw[hadb];exact fun e=>had (Option.some.inj e));have:w1.cell? (ad.add j)=w.cell? (ad.add j):=by simp only[World.cell?,e]
  rw[this];exact q
 have c0:w1.cell? ⟨b,0,none⟩=some (.pointer (some ⟨b,0,none⟩)):=by rw[Lib.cell_of_heap hbk];rfl
 have c1:w1.cell? ⟨b,1,none⟩=some v:=by rw[Lib.cell_of_heap hbk];rfl
 go_wp2_with (at_builtin;go_loud (refine Tryz.BG _ rfl _ _ rfl _ _ _ rfl hown ad m c news rfl (by rw[hl,aaL]) hnews1 h1 ?c3 ?c4 ?_))
 case c3=>unfold maxLen;omega
 case c4=>omega
 intro v' w2 hown' hgrow hnil hat hdr;have hlt:b<w1.heap.size:=(aad.1 hbk).1;have hb2:w2.heap[b]?=some (.cells #[.pointer (some ⟨b,0,none⟩),v] 96 (0,0)):=by rw[hgrow.block b hlt (fun e=>h.ne e.symm)];exact hbk
 have d0:w2.cell? ⟨b,0,none⟩=some (.pointer (some ⟨b,0,none⟩)):=by rw[Lib.cell_of_heap hb2];rfl
 have d1:w2.cell? ⟨b,1,none⟩=some v:=by rw[Lib.cell_of_heap hb2];rfl
 have f1:w2.frozen? ⟨b,1,none⟩=false:=Lib.frozen_of_heap hb2 1;obtain⟨ao,n',cap,rfl⟩:∃ao n' cap,v'=.slice ao n' cap:=by
  rcases hown'.2 with⟨hv,_⟩|⟨g,cap,cur,hv,_⟩
  ·exact⟨_,_,_,hv⟩
  ·exact⟨_,_,_,hv⟩
 go_wp2
 go_ret2
 have hxs:(xs++news).length=n+m:=by rw[ε,hl,h.own.1,aaL]
 have hput:=Lib.BuilderAt.put (T:=96) (e:=5) (aa2 b) hb2 (bs':=xs++news) (by rw[hxs];exact hown') (by decide);obtain⟨_,v2,p1,p2,p3⟩:=hput;have ev:v2=.slice ao n' cap:=by simp[World.setCell,acx,hb2]at p1;exact p1.symm
 subst ev;refine⟨rfl,_,⟨p1,by rw[hxs]at p2;exact p2,p3⟩,?_,?_,?_,?_,?_,hnil,?_,?_⟩
 ·exact hgrow.os.trans hg1.os
 ·exact hgrow.tape.trans hg1.tape
 ·exact hgrow.output.trans hg1.output
 ·have:=hgrow.size;simp[World.setCell];omega
 ·intro k hk hkb hkv;rw[Below.heap_setCell _ _ _ _ (fun e=>hkb (by simp[e]))];rw[hgrow.block k (by omega) hkv,hg1.block k hk (by simp[hkb])]
 ·exact hd1▸hdr
 ·exact hat
set_option maxHeartbeats 1000000 in
set_option maxRecDepth 100000 in
theorem Tryz.ss(b g cap:Nat)(p:Value)(cur:Array Value)(l:List UInt8)(w:World)(hbk:w.heap[b]?=some (.cells #[p,.slice (some ⟨g,0,none⟩) l.length cap] 96 (0,0)))
  (hown:w.ownsRow 0 5 1 (.slice (some ⟨g,0,none⟩) l.length cap) l.length (Lib.byteCells l)) (h0:l≠[]):
  Calls Tryz.prog 45 #[.pointer (some ⟨b,0,none⟩)] w fun e w'=>e=.returned (.string ⟨l.toArray⟩)/\w'=w.drew.freeze ⟨g,0,none⟩ l.length:=by
 have hl0:l.length≠0:=by simpa using h0
 obtain⟨cur,hbg,hg,hnc,hcm,hcs,htake⟩:∃cur,0<=g/\w.heap[g]?=some (.cells cur 5 (0,0))/\l.length<=cap/\cap<=maxLen/\cur.size=cap*1/\cur.toList.take (l.length*1)=Lib.byteCells l:=by
  rcases hown.2 with⟨_,hz⟩|⟨g',cap',cur,hv,r⟩
  ·exact absurd hz hl0
  ·cases hv;exact⟨cur,r⟩
 have c1:w.drew.cell? ⟨b,1,none⟩=some (.slice (some ⟨g,0,none⟩) l.length cap):=by have:w.drew.heap[b]?=some (.cells #[p,.slice (some ⟨g,0,none⟩) l.length cap] 96 (0,0)):=hbk;rw[Lib.cell_of_heap this];rfl
 have hSD:(Builtin.unsafeSliceData_ #[80] 172 #[.slice (some ⟨g,0,none⟩) l.length cap]).run Tryz.prog w.drew=.ok (.pointer (some ⟨g,0,none⟩)) w.drew:=
  Lib.run_unsafeSliceData_row _ _ _ _ _ _ (by omega)
 have hUS:(Builtin.unsafeString_ #[172,3] 9 #[.pointer (some ⟨g,0,none⟩),.int .i64 l.length]).run Tryz.prog w.drew=.ok (.string ⟨l.toArray⟩) (w.drew.freeze ⟨g,0,none⟩ l.length):=by refine Lib.run_unsafeString_row w.drew 172 3 9 5 Tryz.underlying172 Tryz.qu.cellsByte g cur.size (by have hg':w.drew.heap[g]?=some (.cells cur 5 (0,0)):=hg;simp[World.shape?,hg']) l h0 (by omega) (by unfold maxLen at hcm;omega) ?_;intro j x hx;have:=hown.cells (g:=g) rfl j (.int .u8 x.toNat) (by simp[Lib.byteCells,hx]);exact this
 have mixed:Tryz.prog.follows .mixedOrders=true:=by kernel_rfl
 go_enter Tryz.func45,Tryz.ntmps45
 go_wp2
 go_region_o
 all_goals(go_wp2;go_ret;exact⟨rfl,rfl⟩)
end Go.Proofs
set_option maxRecDepth 8000
namespace Go.Proofs.Tryz
open Go.Eng Go.RowKit
variable{G:Gh}{f:Nat->Option Value}{x:Option bp}
theorem CQ{G:Gh}{f:Nat->Option Value}:∀{xs:List Int} {o:Nat},DV.rows G f 1 o (xs.map (Ty.i .u8).ds)->∀j u,(xs.map (Value.int .u8))[j]?=some u->f (o+j)=some u
 |[],o,_,j,u,h=>by simp at h
 |x::xs,o,hr,j,u,h=>by
  have hr:DV.rows G f 1 o ([.I .u8 x]::xs.map (Ty.i .u8).ds):=hr;unfold DV.rows at hr;obtain⟨_,hc,hr⟩:=hr;unfold DV.cells at hc;obtain⟨⟨v,hv,hd⟩,_⟩:=hc;unfold DV.au at hd;cases j with
  |zero=>
   have e:Value.int .u8 x=u:=by simpa using h
   rw[Nat.add_zero,hv,<-e,hd]
  |succ j=>
   have:=CQ hr j u (by simpa using h);rw[show o+(j+1)=o+1+j by omega];exact this
theorem OB{G:Gh}{f:Nat->Option Value}:∀{xs:List Int} {o:Nat},(∀j u,(xs.map (Value.int .u8))[j]?=some u->f (o+j)=some u)->DV.rows G f 1 o (xs.map (Ty.i .u8).ds)
 |[],o,_=>by simp[DV.rows]
 |x::xs,o,h=>by
  show DV.rows G f 1 o ([.I .u8 x]::xs.map (Ty.i .u8).ds);unfold DV.rows;refine⟨rfl,?_,OB fun j u hj=>?_⟩
  ·unfold DV.cells;refine⟨⟨.int .u8 x,by have:=h 0 (.int .u8 x) rfl;simpa using this,by simp[DV.au]⟩,by simp[DV.cells]⟩
  ·have:=h (j+1) u (by simpa using hj);rw[show o+1+j=o+(j+1) by omega];exact this
theorem Cm{h:Hd}(hn:h≠.B 0):gD [x] [] h=none:=by
 cases h with
 |B i=>
  cases i with
  |zero=>exact absurd rfl hn
  |succ i=>rfl
 |O i=>rfl
theorem yO{m:HM}{w:World}(hS:cj G m (gD [x] []) w){h:Hd}(hn:h≠.B 0){l:Eng.Loc}(hl:m h=some l):l=.dead:=by
 cases l with
 |dead=>rfl
 |none=>obtain⟨mt,k,e⟩:=hS.nil _ hl;rw[Cm hn]at e;cases e
 |at_ b sz=>obtain⟨bl,e,_⟩:=hS.fk _ _ _ hl;rw[Cm hn]at e;cases e
 |atx b sz fp=>obtain⟨bl,e,_⟩:=hS.dk _ _ _ _ hl;rw[Cm hn]at e;cases e
theorem Rl{m:HM}{lk:bL}{w:World}(hS:cj G m lk w){b o:Nat}{v:Value}(h:G b o=some v):b<w.heap.size:=by
 have hc:=hS.gh _ _ _ h;rcases Nat.lt_or_ge b w.heap.size with h'|h'
 ·exact h'
 ·have hz:w.heap[b]?=none:=acp h';simp[World.cell?,hz]at hc
def JK(N:Nat)(p1:(List Int))(p2:Bool)(p3:(List Int)):Option (Int×(Bool×(List Int))):=bb (p1≠[]) (bb (p3.length+p1.length<=140737488355328) (some ((p1.length:Int),true,p3++p1)))
abbrev UL(N:Nat):bx:=⟨41,⟨[(0,.mref (.B 0)),(1,dd (.sl (.i .u8)))],[some (.sb (96,5) false [])],[]⟩,[⟨[(0,dd (.i .i64)),(1,.c .nilIface)],[some (.sb (96,5) false [])],[]⟩],JK N⟩
theorem s_W(N:Nat):aF Tryz.prog (UL N):=by
 intro _ v r h nbs hn;obtain⟨p,us,xs,un⟩:=v;have h:JK N p us xs=some r:=h;have hnb:nbs=[]:=by
  cases nbs with
  |nil=>rfl
  |cons _ _=>cases hn
 subst hnb;unfold JK at h;obtain⟨hp,h⟩:=bD h;obtain⟨hb,h⟩:=bD h;cases h;intro w G m vs hS hO hA;have hA:AV.bg G m [.mref (.B 0),.D (.L (p.map (Ty.i .u8).ds))] vs.toList:=hA;have hS:cj G m (gD [some (.sb (96,5) us (xs.map (Ty.i .u8).ds))] []) w:=hS;show db Tryz.prog 41 vs w fun v w'=>qH w G m (gD [some (.sb (96,5) true ((xs++p).map (Ty.i .u8).ds))] []) (.cr [.D (.I .i64 p.length),.D (.C .nilIface)]) v w';unfold AV.bg at hA;obtain⟨v0,l1,e0,r0,hA⟩:=hA;unfold AV.bg at hA;obtain⟨v1,l2,e1,r1,hA⟩:=hA;unfold AV.bg at hA;subst hA;subst e1;have hvs:vs=#[v0,v1]:=ac8 e0;subst hvs;unfold AV.au at r0 r1;obtain⟨_,loc,hloc,hlp⟩:=r0;have hnd:loc≠.dead:=fun e=>by subst e;have:=hS.dead _ hloc;cases this
 obtain⟨b,sz,fp,rfl,rfl⟩:=hlp hnd;obtain⟨bl,hbl,hx⟩:=hS.dk _ _ _ _ hloc;cases hbl;obtain⟨hdup,rfl,v,hheap,hsb,hG⟩:=hx;unfold DV.au at r1;obtain⟨a1,cap,rfl,hcap,_,hne⟩:=r1;have hpl:(p.map (Ty.i .u8).ds)≠[]:=fun e=>hp (abR.1 e);obtain⟨pb,po,k,rfl,hrows⟩:=hne hpl;have hk:k=1:=by
  cases p with
  |nil=>exact absurd rfl hp
  |cons x p=>
   have hrows:DV.rows G (G pb) k po ([.I .u8 x]::p.map (Ty.i .u8).ds):=hrows;unfold DV.rows at hrows;exact hrows.1.symm
 subst hk;have hpb:pb≠b:=fun e=>by
  subst e;cases p with
  |nil=>exact absurd rfl hp
  |cons x p=>
   have:=CQ hrows 0 (.int .u8 x) rfl;rw[hG]at this;cases this
 have hcell:∀j u,(p.map (Value.int .u8))[j]?=some u->w.cell? ((⟨pb,po,none⟩:Addr).add j)=some u:=fun j u hj=>by
  have h1:=hS.gh _ _ _ (CQ hrows j u hj);have e:(⟨pb,po,none⟩:Addr).add j=⟨pb,po+j,none⟩:=by
   unfold Addr.add;split
   ·rename_i h0;subst h0;rfl
   ·rfl
  rw[e];exact h1
 have hB:Tryz.Hn b (.pointer (if us=true then some ⟨b,0,none⟩else none)) xs.length (xs.map (Value.int .u8)) w v:=by
  have hle:(xs.map (Ty.i .u8).ds).length=xs.length:=κ _;rcases hsb with⟨rfl,hx0,rfl⟩|⟨g,c2,rfl,rfl,q3,q4,q5,vs,q6⟩
  ·have hxs:xs=[]:=abR.1 hx0;subst hxs;exact⟨hheap,⟨rfl,.inl ⟨rfl,rfl⟩⟩,fun e=>by cases e⟩
  ·unfold bn at q5;obtain⟨vs',T',h1,h2,h3,h4,h5⟩:=q5;rw[q6]at h1;cases h1;rw[hle]at*;refine⟨hheap,⟨by rw[κ,aaL],.inr ⟨g,c2,vs,rfl,aa2 _,q6,q3,q4,by rw[h2,aaL],?_⟩⟩,fun e=>?_⟩
   ·refine abO fun j=>?_;rw[aaL];by_cases hj:j<xs.length
    ·have hm:(xs.map (Value.int .u8))[j]?=some (.int .u8 xs[j]):=by rw[aaf,ξ hj];rfl
     have:=CQ h4 j _ hm;rw[aaH hj,hm];simpa using this
    ·rw[aay (by rw[aaq];omega),aay (by rw[κ];omega)]
   ·have e:g=b:=Option.some.inj e;subst e;simp at hdup
 have hlp:(p.map (Ty.i .u8).ds).length=p.length:=κ _;rw[hlp];refine .inl ⟨⟨Tryz.f41,Tryz.func41,rfl,rfl⟩,(Tryz.vv b us xs.length _ v w hB ⟨pb,po,none⟩ p.length cap (p.map (Value.int .u8)) (κ _) hcell (fun u hu=>by
  obtain⟨n,_,rfl⟩:=List.mem_map.1 hu;rfl) hpb hb).mono ?_⟩
 have hfp:∀c∈fp,some c=v.ownBlock/\∀o,G c o=none:=by
  intro c hc;rcases hsb with⟨_,_,rfl⟩|⟨g,c2,rfl,rfl,q3,q4,q5,_⟩
  ·cases hc
  ·obtain rfl:=aap.1 hc;unfold bn at q5;obtain⟨_,_,_,_,_,_,h5⟩:=q5;exact⟨rfl,h5⟩
 have hvb:∀c,v.ownBlock=some c->c∈fp:=by
  intro c hc;rcases hsb with⟨rfl,_,_⟩|⟨g,c2,rfl,rfl,_⟩
  ·cases hc
  ·cases hc;exact aap.2 rfl
 rintro e w' ⟨rfl,v',hB',os,tape,out,size,frame,hnil,hdr,hat⟩;have hm0:p.length≠0:=by simpa using hp
 obtain⟨hlen,hor⟩:=hB'.own;rcases hor with⟨rfl,hz⟩|⟨g,cap',cur,rfl,_,hg,hnc,hcm,hcs,htk⟩
 ·omega
 have hgb:g≠b:=fun e=>hB'.ne (by rw[e];rfl);have hgG:∀o,G g o=none:=by
  intro o;rcases hat with e|e
  ·exact(hfp g (hvb g e.symm)).2 o
  ·cases hq:G g o with
   |none=>rfl
   |some q=>
    have:=Rl hS hq;have e:g=w.heap.size:=Option.some.inj e;omega
 have hbo:Own m b:=⟨.B 0,_,hloc,aao⟩;refine⟨_,rfl,G,fun h=>if h=.B 0 then some (.atx b 2 [g])else m h,⟨?_,?_,?_,?_,?_,hS.gl,?_⟩,?_,⟨os,⟨tape,hdr⟩,out,size,?_,fun _ _ _ _=>rfl,Gh.le.refl G⟩,?_,?_,?_⟩
 ·intro h b' sz' hm;by_cases hn:h=.B 0
  ·simp only[hn,if_true]at hm;cases hm
  ·simp only[if_neg hn]at hm;have:=yO hS hn hm;cases this
 ·intro h hm;by_cases hn:h=.B 0
  ·simp only[hn,if_true]at hm;cases hm
  ·simp only[if_neg hn]at hm;have:=yO hS hn hm;cases this
 ·intro h h' l l' b' h1 h2 h3 h4;have aux:∀{h:Hd} {l:Eng.Loc},(if h=Hd.B 0 then some (Eng.Loc.atx b 2 [g])else m h)=some l->b'∈l.gk->h=.B 0:=fun{h l} q1 q2=>by
   by_cases hn:h=.B 0
   ·exact hn
   ·rw[if_neg hn]at q1;have:=yO hS hn q1;subst this;cases q2
  rw[aux h1 h3,aux h2 h4]
 ·intro b' o u hG';have hlt:=Rl hS hG';have hbb:b'≠b:=fun e=>by rw[e,hG]at hG';cases hG'
  have hvv:some b'≠v.ownBlock:=fun e=>by rw[(hfp b' (hvb b' e.symm)).2]at hG';cases hG'
  have h1:=hS.gh _ _ _ hG';have e:w'.heap[b']?=w.heap[b']?:=frame b' hlt hbb hvv;have:w'.cell? ⟨b',o,none⟩=w.cell? ⟨b',o,none⟩:=by simp only[World.cell?,e]
  rw[this];exact h1
 ·intro h hm;by_cases hn:h=.B 0
  ·simp only[hn,if_true]at hm;cases hm
  ·exact Cm hn
 ·intro h b' sz' fp' hm;by_cases hn:h=.B 0
  ·simp only[hn,if_true]at hm;cases hm;subst hn;refine⟨_,rfl,?_⟩;refine⟨by simp[hgb.symm],rfl,_,hB'.fk,.inr ⟨g,cap',rfl,?_,?_,hcm,⟨cur,5,hg,?_,?_,?_,hgG⟩,cur,hg⟩,hG⟩
   ·rw[κ,ε]
   ·rw[κ,ε];exact hnc
   ·rw[hcs,aaL]
   ·rw[κ,ε,aaL];exact hnc
   ·refine OB fun j u hj=>?_;have e:(xs++p).map (Value.int .u8)=cur.toList.take ((xs.length+p.length)*1):=by rw[htk,aau]
    rw[e]at hj;rw[aal];rw[List.getElem?_take]at hj;split at hj
    ·simpa using hj
    ·cases hj
  ·simp only[if_neg hn]at hm;have:=yO hS hn hm;cases this
 ·unfold AV.au;refine⟨_,rfl,?_⟩;unfold AV.bg;refine⟨_,_,rfl,by simp[AV.au,DV.au],?_⟩;unfold AV.bg;exact⟨_,_,rfl,by simp[AV.au,DV.au],by simp[AV.bg]⟩
 ·intro k hk ho;refine frame k hk (fun e=>ho (e▸hbo)) fun e=>ho ?_;exact⟨.B 0,_,hloc,aaa _ (hvb k e.symm)⟩
 ·intro i;by_cases hn:i=0
  ·subst hn;exact .inr (.inr ⟨b,2,fp,[g],hloc,by simp⟩)
  ·exact .inl (by simp[hn])
 ·intro h l b' hm hb';by_cases hn:h=.B 0
  ·simp only[hn,if_true]at hm;cases hm;rcases υ.1 hb' with rfl|hb'
   ·exact .inr hbo
   ·obtain rfl:=aap.1 hb';rcases hat with e|e
    ·exact .inr ⟨.B 0,_,hloc,aaa _ (hvb _ e.symm)⟩
    ·have e:b'=w.heap.size:=Option.some.inj e;exact .inl (by omega)
  ·simp only[if_neg hn]at hm;exact .inr ⟨h,l,hm,hb'⟩
 ·intro i _;exact hO i
set_option maxRecDepth 8000
def iR(N:Nat)(p1:(List Int))(p2:Bool)(p3:(List Int)):Option (Int×(Bool×(List Int))):=bb (p1≠[]) (bb (p3.length+p1.length<=140737488355328) (some ((p1.length:Int),true,p3++p1)))
abbrev uQ(N:Nat):bx:=⟨41,⟨[(0,.mref (.B 0)),(1,dd (.sl (.i .u8)))],[some (.sb (96,5) false [])],[]⟩,[⟨[(0,dd (.i .i64)),(1,.c .nilIface)],[some (.sb (96,5) false [])],[]⟩],iR N⟩
theorem vI(N:Nat):aF Tryz.prog (uQ N):=s_W N
def fA(N:Nat)(p1:Bool)(p2:(List Int)):Option bw:=bb (p2≠[]) (bb (∀n∈p2,0<=n/\n<256) (some (bA p2)))
abbrev uL(N:Nat):bx:=⟨45,⟨[(0,.mref (.B 0))],[some (.sb (96,5) false [])],[]⟩,[⟨[(0,dd .s)],[none],[]⟩],fA N⟩
theorem Np:∀{xs:List Int},(∀n∈xs,0<=n/\n<256)->Lib.byteCells (bA xs)=xs.map (Value.int .u8)
 |[],_=>rfl
 |x::xs,h=>by obtain⟨h1,h2⟩:=h x aao;have ih:=Np (xs:=xs) fun n hn=>h n (aaa _ hn);unfold Lib.byteCells bA at*;rw[aaN,aaN,ih,aaN];congr 2;rw[UInt8.toNat_ofNat'];omega
theorem uG(N:Nat):aF Tryz.prog (uL N):=by
 intro _ v r h nbs hn;obtain⟨us,xs,un⟩:=v;have h:fA N us xs=some r:=h;have hnb:nbs=[]:=by
  cases nbs with
  |nil=>rfl
  |cons _ _=>cases hn
 subst hnb;unfold fA at h;obtain⟨hp,h⟩:=bD h;obtain⟨hb,h⟩:=bD h;cases h;intro w G m vs hS hO hA;have hA:AV.bg G m [.mref (.B 0)] vs.toList:=hA;have hS:cj G m (gD [some (.sb (96,5) us (xs.map (Ty.i .u8).ds))] []) w:=hS;show db Tryz.prog 45 vs w fun v w'=>qH w G m (gD [none] []) (.D (.S (bA xs))) v w';unfold AV.bg at hA;obtain⟨v0,l1,e0,r0,hA⟩:=hA;unfold AV.bg at hA;subst hA;have hvs:vs=#[v0]:=ac8 e0;subst hvs;unfold AV.au at r0;obtain⟨_,loc,hloc,hlp⟩:=r0;have hnd:loc≠.dead:=fun e=>by subst e;have:=hS.dead _ hloc;cases this
 obtain⟨b,sz,fp,rfl,rfl⟩:=hlp hnd;obtain⟨bl,hbl,hx⟩:=hS.dk _ _ _ _ hloc;cases hbl;obtain⟨hdup,rfl,v,hheap,hsb,hG⟩:=hx;rcases hsb with⟨_,hx0,_⟩|⟨g,c2,rfl,rfl,q3,q4,q5,vs,q6⟩
 ·exact absurd (abR.1 hx0) hp
 unfold bn at q5;obtain⟨vs',T',h1,h2,h3,h4,hgG⟩:=q5;rw[q6]at h1;cases h1;have hlx:(xs.map (Ty.i .u8).ds).length=(bA xs).length:=by unfold bA;rw[κ,κ]
 have hlx':(bA xs).length=xs.length:=by unfold bA;rw[κ]
 rw[hlx]at q3 hheap h3;have hown:w.ownsRow 0 5 1 (.slice (some ⟨g,0,none⟩) (bA xs).length c2) (bA xs).length (Lib.byteCells (bA xs)):=by
  rw[Np hb];refine⟨by rw[κ,aaL,hlx'],.inr ⟨g,c2,vs,rfl,aa2 _,q6,q3,q4,by rw[h2,aaL],?_⟩⟩;refine abO fun j=>?_;rw[aaL,hlx'];by_cases hj:j<xs.length
  ·have hm:(xs.map (Value.int .u8))[j]?=some (.int .u8 xs[j]):=by rw[aaf,ξ hj];rfl
   have:=CQ h4 j _ hm;rw[aaH hj,hm];simpa using this
  ·rw[aay (by rw[aaq];omega),aay (by rw[κ];omega)]
 have h0:bA xs≠[]:=fun e=>hp (by have:=congrArg List.length e;rw[hlx']at this;exact List.eq_nil_of_length_eq_zero this);refine .inl ⟨⟨Tryz.f45,Tryz.func45,rfl,rfl⟩,(Tryz.ss b g c2 _ vs (bA xs) w hheap hown h0).mono ?_⟩;rintro e w' ⟨rfl,rfl⟩;have hfz:∀k,k≠g->(w.drew.freeze ⟨g,0,none⟩ (bA xs).length).heap[k]?=w.heap[k]?:=fun k hk=>by
  unfold World.freeze World.drew;split
  ·rfl
  ·show(w.heap.modify g _)[k]?=_;rw[acx,if_neg (Ne.symm hk)]
 have hfs:(w.drew.freeze ⟨g,0,none⟩ (bA xs).length).heap.size=w.heap.size:=by
  unfold World.freeze World.drew;split
  ·rfl
  ·exact Array.size_modify
 have hrest:∀w0:World,(w0.freeze ⟨g,0,none⟩ (bA xs).length).os=w0.os/\(w0.freeze ⟨g,0,none⟩ (bA xs).length).tape=w0.tape/\(w0.freeze ⟨g,0,none⟩ (bA xs).length).drawn=w0.drawn/\(w0.freeze ⟨g,0,none⟩ (bA xs).length).output=w0.output:=fun w0=>by unfold World.freeze;split<;>exact⟨rfl,rfl,rfl,rfl⟩
 obtain⟨r1,r2,r3,r4⟩:=hrest w.drew;have hOg:Own m g:=⟨.B 0,_,hloc,aaa _ aao⟩;have hm':∀{h:Hd} {l:Eng.Loc},(if h=Hd.B 0 then some Eng.Loc.dead else m h)=some l->l=.dead:=fun{h l} q=>by
  by_cases hn:h=.B 0
  ·rw[if_pos hn]at q;cases q;rfl
  ·rw[if_neg hn]at q;exact yO hS hn q
 refine⟨_,rfl,G,fun h=>if h=.B 0 then some .dead else m h,⟨?_,?_,?_,?_,?_,hS.gl,?_⟩,?_,⟨r1,⟨r2,?_⟩,r4,?_,?_,fun _ _ _ _=>rfl,Gh.le.refl G⟩,?_,?_,?_⟩
 ·intro h b' sz' hm;cases hm' hm
 ·intro h hm;cases hm' hm
 ·intro h h' l l' b' h1 h2 h3 h4;rw[hm' h1]at h3;cases h3
 ·intro b' o u hG';have hbb:b'≠g:=fun e=>by rw[e,hgG]at hG';cases hG'
  have h1:=hS.gh _ _ _ hG';have e:=hfz b' hbb;have:(w.drew.freeze ⟨g,0,none⟩ (bA xs).length).cell? ⟨b',o,none⟩=w.cell? ⟨b',o,none⟩:=by simp only[World.cell?,e]
  rw[this];exact h1
 ·intro h hm;cases h with
  |B i=>
   cases i with
   |zero=>rfl
   |succ i=>rfl
  |O i=>rfl
 ·intro h b' sz' fp' hm;cases hm' hm
 ·simp[AV.au,DV.au]
 ·rw[r3];exact Nat.le_succ _
 ·rw[hfs];exact me _
 ·intro k hk ho;exact hfz k fun e=>ho (e▸hOg)
 ·intro i;by_cases hn:i=0
  ·subst hn;exact .inr (.inl ⟨(by rw[hloc];intro e;cases e),by simp⟩)
  ·exact .inl (by simp[hn])
 ·intro h l b' hm hb';rw[hm' hm]at hb';cases hb'
 ·intro i _;exact hO i
set_option synthInstance.maxSize 100000000
set_option synthInstance.maxHeartbeats 4000000
def iM(N:Nat)(a:TF):Option (bw×Int):=bj (cY N a) fun e=>bk (e !=0) (some (([]:bw),e)) (bj (gE N a.1) fun b=>bf b.length b (bj (iR N b false ([]:TC)) fun f=>bj (gH N a) fun c=>bf c.length c (bj (kH N c) fun d=>bf d.length d (bj (iR N d f.2.1 f.2.2) fun g=>bj (fA N g.2.1 g.2.2) fun h=>some (h,0)))))
abbrev Zj(N:Nat):bx:=⟨13,⟨[(0,dd tD)],[],[]⟩,[⟨[(0,dd .s),(1,dd tC)],[],[]⟩],iM N⟩
theorem pA(N:Nat):aF Tryz.prog (Zj N):=xf N (tc (pU N) (tc (rJ N) (tc (vI N) (tc (xR N) (tc (zE N) (tc (uG N) tn)))))) [5000045,5000041] [] 0 Tryz.func13 rfl (by kernel_rfl) fun a=>by kernel_rfl
def XR(N:Nat)(rec4:bw->Int->Int->Int->Int->TK->TG->TA->TG->TA->Option TO)(m:bw)(n j:Int)(l k:Int)(h:TK)(f:TG)(g:TA)(d:TG)(e:TA):Option TO:=bk (decide (j<n)) (sn (bb (0<=j) (bb (j<(h.length:Int)) (cw h j.toNat fun o=>bj (uC N o) fun b=>bk (b.2==0) (bf d.length d (bb (((d.length+[b.1].length)*48)<=140737488355328) (bf h.length h (bf f.length f (bf g.length g (bf ((d++[b.1]).length) (d++[b.1]) (bf e.length e (some (.inr (m,n,j,l,k,h,f,g,(d++[b.1]),e)))))))))) (bj (sX N o) fun a=>bk (a.2.2.2.2.2.2.2.2==0) (bf e.length e (bb (((e.length+[(a.1,(a.2.1,(a.2.2.1,(a.2.2.2.1,(a.2.2.2.2.1,(a.2.2.2.2.2.1,(a.2.2.2.2.2.2.1,a.2.2.2.2.2.2.2.1)))))))].length)*80)<=140737488355328) (bf h.length h (bf f.length f (bf g.length g (bf d.length d (bf ((e++[(a.1,(a.2.1,(a.2.2.1,(a.2.2.2.1,(a.2.2.2.2.1,(a.2.2.2.2.2.1,(a.2.2.2.2.2.2.1,a.2.2.2.2.2.2.2.1)))))))]).length) (e++[(a.1,(a.2.1,(a.2.2.1,(a.2.2.2.1,(a.2.2.2.2.1,(a.2.2.2.2.2.1,(a.2.2.2.2.2.2.1,a.2.2.2.2.2.2.2.1)))))))]) (some (.inr (m,n,j,l,k,h,f,g,d,(e++[(a.1,(a.2.1,(a.2.2.1,(a.2.2.2.1,(a.2.2.2.2.1,(a.2.2.2.2.2.1,(a.2.2.2.2.2.2.1,a.2.2.2.2.2.2.2.1)))))))]))))))))))) (zJ (some (0,(([]:TG),(([]:TA),11))))))))) fun c=>ck .i64 (c.2.2.1+1) (bf c.2.2.2.2.2.1.length c.2.2.2.2.2.1 (bf c.2.2.2.2.2.2.1.length c.2.2.2.2.2.2.1 (bf c.2.2.2.2.2.2.2.1.length c.2.2.2.2.2.2.2.1 (bf c.2.2.2.2.2.2.2.2.1.length c.2.2.2.2.2.2.2.2.1 (bf c.2.2.2.2.2.2.2.2.2.length c.2.2.2.2.2.2.2.2.2 (rec4 c.1 c.2.1 (c.2.2.1+1) c.2.2.2.1 c.2.2.2.2.1 c.2.2.2.2.2.1 c.2.2.2.2.2.2.1 c.2.2.2.2.2.2.2.1 c.2.2.2.2.2.2.2.2.1 c.2.2.2.2.2.2.2.2.2))))))) (bf d.length d (bf e.length e (bj (iM N (k,(d,e))) fun p=>bj (bk (p.2!=0) (bf f.length f (bf g.length g (bf d.length d (bf e.length e (some (true,l,k,f,g,d,e)))))) (bf f.length f (bf g.length g (bf d.length d (bf e.length e (some ((!(p.1==m)),l,k,f,g,d,e))))))) fun i=>bk i.1 (some (0,(([]:TG),(([]:TA),11)))) (bf i.2.2.2.2.2.1.length i.2.2.2.2.2.1 (bf i.2.2.2.2.2.2.length i.2.2.2.2.2.2 (some (i.2.2.1,(i.2.2.2.2.2.1,(i.2.2.2.2.2.2,0)))))))))
def Wv(N:Nat):Nat->bw->Int->Int->Int->Int->TK->TG->TA->TG->TA->Option TO:=aN [.s,tC,tC,tC,tC,(.sl .s),(.sl tB),(.sl tA),(.sl tB),(.sl tA)] (XR N)
def vL(N:Nat)(a:bw):Option TO:=bj (gT N (bE a)) fun b=>bk (b.2.2!=0) (some (0,(([]:TG),(([]:TA),11)))) (bb (0<=b.2.1) (bb (b.2.1.toNat<=a.length) (bb (a.length<=a.length) (bj (nI N (bE (aaE (a.length-b.2.1.toNat) (aaV b.2.1.toNat a)))) fun c=>bk (c.2.1!=0) (some (0,(([]:TG),(([]:TA),11)))) (bf c.2.2.length c.2.2 (Wv N N a (c.2.2.length:Int) 0 0 b.1 c.2.2 ([]:TG) ([]:TA) ([]:TG) ([]:TA)))))))
abbrev W7(N:Nat):bx:=⟨14,⟨[(0,dd .s)],[],[]⟩,[⟨[(0,.agg [dd tC,dd (.sl tB),dd (.sl tA)]),(1,dd tC)],[],[]⟩],vL N⟩
theorem W3(N:Nat):aF Tryz.prog (W7 N):=xf N (tc (pG N) (tc (uB N) (tc (WB N) (tc (aC3 N) (tc (pA N) tn))))) [59,72] [⟨25,true,⟨[(2,.ptr (.O 0) 0),(4,.ptr (.O 1) 0),(87,dd .b)],[],[some (.box [dd tC,.slw (.O 2) tB 0,.slw (.O 3) tA 0]),some (.box [dd tC,.slw (.O 4) tB 0,.slw (.O 5) tA 0]),some (.row true tB []),some (.row true tA []),some (.row true tB []),some (.row true tA [])]⟩⟩,⟨16,false,⟨[(0,dd .s),(2,.ptr (.O 0) 0),(4,.ptr (.O 1) 0),(42,.slw (.O 2) .s 0),(43,dd tC),(44,dd tC)],[],[some (.box [dd tC,.slw (.O 3) tB 0,.slw (.O 4) tA 0]),some (.box [dd tC,.slw (.O 5) tB 0,.slw (.O 6) tA 0]),some (.row true .s []),some (.row true tB []),some (.row true tA []),some (.row true tB []),some (.row true tA [])]⟩⟩,⟨13,false,⟨[(0,dd .s),(2,.ptr (.O 0) 0),(4,.ptr (.O 1) 0),(42,.slw (.O 2) .s 0),(43,dd tC),(44,dd tC)],[],[some (.box [dd tC,.slw (.O 3) tB 0,.slw (.O 4) tA 0]),some (.box [dd tC,.slw (.O 5) tB 0,.slw (.O 6) tA 0]),some (.row true .s []),some (.row true tB []),some (.row true tA []),some (.row true tB []),some (.row true tA [])]⟩⟩] 0 Tryz.func14 rfl (by kernel_rfl) fun a=>by kernel_rfl
def tZ(N:Nat)(a:TG)(b:Int):Option Bool:=bj (bk (decide ((a.length:Int)<=b)) (some true) (bk (decide ((a.length:Int)>4000)) (some (decide ((a.length:Int)<=4010))) (some false))) fun c=>some c
abbrev R4(N:Nat):bx:=⟨84,⟨[(0,dd (.sl tB)),(1,dd tC)],[],[]⟩,[⟨[(0,dd .b)],[],[]⟩],tZ N⟩
theorem UF(N:Nat):aF Tryz.prog (R4 N):=xf N tn [] [⟨2,true,⟨[(4,dd .b)],[],[]⟩⟩] 0 Tryz.func84 rfl (by kernel_rfl) fun a=>by kernel_rfl
def iE(rec2:Int->TE->Option Bool)(a:Int)(b:TE):Option Bool:=bk (decide (a<(b.length:Int))) (bj (bB b a fun d=>bk (decide ((d.2.2.1.length:Int)>12)) (some (a,true,b)) (bB b a fun e=>some (a,decide ((e.2.2.2.length:Int)>12),b))) fun c=>bk c.2.1 (some false) (ck .i64 (c.1+1) (rec2 (c.1+1) c.2.2))) (some true)
def iG:Nat->Int->TE->Option Bool:=aN [tC,(.sl tE)] (iE)
def jP(N:Nat)(a:TE):Option Bool:=bk (decide ((a.length:Int)>20)) (some false) (iG N 0 a)
abbrev aFm(N:Nat):bx:=⟨130,⟨[(0,dd (.w (.sl tE)))],[],[]⟩,[⟨[(0,dd .b)],[],[]⟩],jP N⟩
theorem WO(N:Nat):aF Tryz.prog (aFm N):=xf N tn [] [⟨10,true,⟨[(1,.ptr (.O 0) 0),(3,dd tC),(34,dd .b)],[],[some (.box [dd (.sl tE)])]⟩⟩,⟨6,false,⟨[(1,.ptr (.O 0) 0),(3,dd tC)],[],[some (.box [dd (.sl tE)])]⟩⟩] 0 Tryz.func130 rfl (by kernel_rfl) fun a=>by kernel_rfl
def pI(N:Nat)(rec4:TA->Int->Option Bool)(b:TA)(a:Int):Option Bool:=bk (decide (a<(b.length:Int))) (bB b a fun c=>bj (jP N c.2.2.2.2.2.2.2) fun d=>bk (!d) (some false) (ck .i64 (a+1) (rec4 b (a+1)))) (some true)
def lS(N:Nat):Nat->TA->Int->Option Bool:=aN [(.sl tA),tC] (pI N)
def sU(N:Nat)(a:TA)(c:Int):Option Bool:=bj (bk (decide ((a.length:Int)>c)) (bk (decide ((a.length:Int)<=400)) (some (a,true)) (some (a,decide ((a.length:Int)>410)))) (some (a,decide ((a.length:Int)>410)))) fun b=>bk b.2 (some false) (lS N N b.1 0)
abbrev V3(N:Nat):bx:=⟨85,⟨[(0,dd (.sl tA)),(1,dd tC)],[],[]⟩,[⟨[(0,dd .b)],[],[]⟩],sU N⟩
theorem WM(N:Nat):aF Tryz.prog (V3 N):=xf N (tc (WO N) tn) [] [⟨6,false,⟨[(0,dd (.sl tA)),(5,dd tC)],[],[]⟩⟩,⟨2,true,⟨[(0,dd (.sl tA)),(20,dd .b)],[],[]⟩⟩] 0 Tryz.func85 rfl (by kernel_rfl) fun a=>by kernel_rfl
def pR(N:Nat)(a:TF)(b:Int):Option Bool:=bj (tZ N a.2.1 b) fun c=>bj (sU N a.2.2 b) fun d=>bj (bk c (some d) (some false)) fun e=>some e
abbrev aV7(N:Nat):bx:=⟨35,⟨[(0,dd tD),(1,dd tC)],[],[]⟩,[⟨[(0,dd .b)],[],[]⟩],pR N⟩
theorem aUy(N:Nat):aF Tryz.prog (aV7 N):=xf N (tc (UF N) (tc (WM N) tn)) [] [⟨3,true,⟨[(4,dd .b)],[],[]⟩⟩] 0 Tryz.func35 rfl (by kernel_rfl) fun a=>by kernel_rfl
def nB(N:Nat)(a:TF):Option Bool:=bj (pR N a 30) fun b=>some b
abbrev Uq(N:Nat):bx:=⟨9,⟨[(0,dd tD)],[],[]⟩,[⟨[(0,dd .b)],[],[]⟩],nB N⟩
theorem aSv(N:Nat):aF Tryz.prog (Uq N):=xf N (tc (aUy N) tn) [] [] 0 Tryz.func9 rfl (by kernel_rfl) fun a=>by kernel_rfl
def xF(N:Nat):Option (TG×TA):=some ([(3,(1,(100,(120,(50,0))))),(3,(2,(110,(114,(60,2))))),(3,(5,(130,(140,(50,0)))))],[(2,(3,(4,(2,(0,(200,(1,([]:TE))))))))])
abbrev aIl(N:Nat):bx:=⟨36,⟨[],[],[]⟩,[⟨[(0,.slw (.O 0) tB 0),(1,.slw (.O 1) tA 0)],[],[some (.row true tB []),some (.row true tA [])]⟩],xF N⟩
theorem Z5(N:Nat):aF Tryz.prog (aIl N):=xf N tn [] [] 0 Tryz.func36 rfl (by kernel_rfl) fun a=>by kernel_rfl
def nN(rec3:TG->TG->Int->Option Bool)(d e:TG)(c:Int):Option Bool:=bk (decide (c<(d.length:Int))) (bB d c fun a=>bB e c fun b=>bk (!(mF [1,1,1,1,1] (a.1==b.1) (mF [1,1,1,1] (a.2.1==b.2.1) (mF [1,1,1] (a.2.2.1==b.2.2.1) (mF [1,1] (a.2.2.2.1==b.2.2.2.1) (mF [1] (a.2.2.2.2.1==b.2.2.2.2.1) (mF ([]:(List Nat)) (a.2.2.2.2.2==b.2.2.2.2.2) true))))))) (some false) (ck .i64 (c+1) (rec3 d e (c+1)))) (some true)
def nZ:Nat->TG->TG->Int->Option Bool:=aN [(.sl tB),(.sl tB),tC] (nN)
def nS(N:Nat)(a b:TG):Option Bool:=bk ((a.length:Int)!=(b.length:Int)) (some false) (nZ N a b 0)
abbrev ZT(N:Nat):bx:=⟨26,⟨[(0,dd (.sl tB)),(1,dd (.sl tB))],[],[]⟩,[⟨[(0,dd .b)],[],[]⟩],nS N⟩
theorem Qx(N:Nat):aF Tryz.prog (ZT N):=xf N tn [] [⟨6,false,⟨[(0,dd (.sl tB)),(1,dd (.sl tB)),(5,dd tC)],[],[]⟩⟩] 0 Tryz.func26 rfl (by kernel_rfl) fun a=>by kernel_rfl
def gZ(rec3:Int->TE->TE->Option Bool)(a:Int)(d e:TE):Option Bool:=bk (decide (a<(d.length:Int))) (bB d a fun b=>bB e a fun c=>bk (!(oJ [(Sh.s 0),(Sh.s 2),(Sh.s 2)] (b.1==c.1) (oJ [(Sh.s 2),(Sh.s 2)] (b.2.1==c.2.1) (oJ [(Sh.s 2)] (b.2.2.1==c.2.2.1) (oJ ([]:(List Sh)) (b.2.2.2==c.2.2.2) true))))) (some false) (ck .i64 (a+1) (rec3 (a+1) d e))) (some true)
def hH:Nat->Int->TE->TE->Option Bool:=aN [tC,(.sl tE),(.sl tE)] (gZ)
def jU(N:Nat)(a b:TE):Option Bool:=bk ((a.length:Int)!=(b.length:Int)) (some false) (hH N 0 a b)
abbrev XP(N:Nat):bx:=⟨127,⟨[(0,dd (.w (.sl tE))),(1,dd (.w (.sl tE)))],[],[]⟩,[⟨[(0,dd .b)],[],[]⟩],jU N⟩
theorem Xz(N:Nat):aF Tryz.prog (XP N):=xf N tn [] [⟨6,false,⟨[(2,.ptr (.O 0) 0),(3,.ptr (.O 1) 0),(5,dd tC)],[],[some (.box [dd (.sl tE)]),some (.box [dd (.sl tE)])]⟩⟩] 0 Tryz.func127 rfl (by kernel_rfl) fun a=>by kernel_rfl
def oD(N:Nat)(a b:TH):Option Bool:=bj (jU N a.2.2.2.2.2.2.2 b.2.2.2.2.2.2.2) fun c=>bj (bk c (bk (a.1==b.1) (bk (a.2.1==b.2.1) (bk (a.2.2.1==b.2.2.1) (bk (a.2.2.2.1==b.2.2.2.1) (bk (a.2.2.2.2.1==b.2.2.2.2.1) (bk (a.2.2.2.2.2.1==b.2.2.2.2.2.1) (some (a.2.2.2.2.2.2.1==b.2.2.2.2.2.2.1)) (some false)) (some false)) (some false)) (some false)) (some false)) (some false)) (some false)) fun d=>some d
abbrev SE(N:Nat):bx:=⟨70,⟨[(0,dd tA),(1,dd tA)],[],[]⟩,[⟨[(0,dd .b)],[],[]⟩],oD N⟩
theorem aQw(N:Nat):aF Tryz.prog (SE N):=xf N (tc (Xz N) tn) [] [⟨2,true,⟨[(4,dd .b)],[],[]⟩⟩] 0 Tryz.func70 rfl (by kernel_rfl) fun a=>by kernel_rfl
def iX(N:Nat)(rec3:TA->TA->Int->Option Bool)(d e:TA)(c:Int):Option Bool:=bk (decide (c<(d.length:Int))) (bB d c fun a=>bB e c fun b=>bj (oD N a b) fun f=>bk (!f) (some false) (ck .i64 (c+1) (rec3 d e (c+1)))) (some true)
def iT(N:Nat):Nat->TA->TA->Int->Option Bool:=aN [(.sl tA),(.sl tA),tC] (iX N)
def iK(N:Nat)(a b:TA):Option Bool:=bk ((a.length:Int)!=(b.length:Int)) (some false) (iT N N a b 0)
abbrev SJ(N:Nat):bx:=⟨27,⟨[(0,dd (.sl tA)),(1,dd (.sl tA))],[],[]⟩,[⟨[(0,dd .b)],[],[]⟩],iK N⟩
theorem uY(N:Nat):aF Tryz.prog (SJ N):=xf N (tc (aQw N) tn) [] [⟨6,false,⟨[(0,dd (.sl tA)),(1,dd (.sl tA)),(5,dd tC)],[],[]⟩⟩] 0 Tryz.func27 rfl (by kernel_rfl) fun a=>by kernel_rfl
def cO(N:Nat)(a b:TF):Option Bool:=bj (nS N a.2.1 b.2.1) fun c=>bj (iK N a.2.2 b.2.2) fun d=>bj (bk c (bk d (some (a.1==b.1)) (some false)) (some false)) fun e=>some e
abbrev Zs(N:Nat):bx:=⟨21,⟨[(0,dd tD),(1,dd tD)],[],[]⟩,[⟨[(0,dd .b)],[],[]⟩],cO N⟩
theorem MB(N:Nat):aF Tryz.prog (Zs N):=xf N (tc (Qx N) (tc (uY N) tn)) [] [⟨3,true,⟨[(4,dd .b)],[],[]⟩⟩] 0 Tryz.func21 rfl (by kernel_rfl) fun a=>by kernel_rfl
def Lh(N:Nat)(b:TG)(c:TA)(d:Int):Option TO:=bj (gJ N b c) fun e=>bk (e !=0) (some (0,(([]:TG),(([]:TA),e)))) (bj (lQ N d) fun f=>bk (!f) (some (0,(([]:TG),(([]:TA),3)))) (bj (wW N b c d) fun a=>bf a.2.1.length a.2.1 (bf a.2.2.length a.2.2 (some (a.1,(a.2.1,(a.2.2,0)))))))
abbrev RJ(N:Nat):bx:=⟨11,⟨[(0,dd (.sl tB)),(1,dd (.sl tA)),(2,dd tC)],[],[]⟩,[⟨[(0,.agg [dd tC,dd (.sl tB),dd (.sl tA)]),(1,dd tC)],[],[]⟩],Lh N⟩
theorem WN(N:Nat):aF Tryz.prog (RJ N):=xf N (tc (qC N) (tc (QV N) (tc (Qv N) tn))) [] [] 0 Tryz.func11 rfl (by kernel_rfl) fun a=>by kernel_rfl
def LV(N:Nat):Option TI:=some ((bz.from [1779033703,3144134277,1013904242,2773480762,1359893119,2600822924,528734635,1541459225] 8),((bz.zero 64),0))
abbrev aQv(N:Nat):bx:=⟨80,⟨[],[],[]⟩,[⟨[(0,dd tG)],[],[]⟩],LV N⟩
theorem X7(N:Nat):aF Tryz.prog (aQv N):=xf N tn [] [] 0 Tryz.func80 rfl (by kernel_rfl) fun a=>by kernel_rfl
def cK(N:Nat)(b a:Int):Option Int:=bb (0<=(bits .and .u64 (δ .u64 a) 31)) (bb ((bits .and .u64 (δ .u64 a) 31)<=(((abQ .u32):Nat):Int)) (bb (0<=(δ .u64 (32-(bits .and .u64 (δ .u64 a) 31)))) (bb ((δ .u64 (32-(bits .and .u64 (δ .u64 a) 31)))<=(((abQ .u32):Nat):Int)) (some (bits .or .u32 (δ .u32 (b*(2^(bits .and .u64 (δ .u64 a) 31).toNat))) (b/(2^(δ .u64 (32-(bits .and .u64 (δ .u64 a) 31))).toNat)))))))
abbrev R5(N:Nat):bx:=⟨173,⟨[(0,dd tI),(1,dd tC)],[],[]⟩,[⟨[(0,dd tI)],[],[]⟩],cK N⟩
theorem qJ(N:Nat):aF Tryz.prog (R5 N):=xf N tn [] [] 0 Tryz.func173 rfl (by kernel_rfl) fun a=>by kernel_rfl
def Y3(i:TC->Int->Int->TC->Int->Int->(bz 64)->(bz 64)->Option TX)(d:TC)(a e:Int)(f:TC)(g b:Int)(h c:(bz 64)):Option TX:=bk (decide (b<g)) (bB f b fun j=>bb (0<=a) (bb (a<((64:Nat):Int)) (cw c.l a.toNat fun k=>bb (0<=a) (bb (a<((64:Nat):Int)) (bb (a.toNat<64) (ck .i64 (b+1) (i d a e f g (b+1) h (bz.set c a.toNat (bits .or .u32 (δ .u32 (k*(2^8))) (δ .u32 j)))))))))) (some (d,e,h,c))
def aDs:Nat->TC->Int->Int->TC->Int->Int->(bz 64)->(bz 64)->Option TX:=aN [tH,tC,tC,tH,tC,tC,tN,tN] (Y3)
def T5(N:Nat)(rec2:TC->Int->(bz 64)->(bz 64)->Option (bz 64))(c:TC)(a:Int)(g b:(bz 64)):Option (bz 64):=bk (decide (a<64)) (bj (bk (decide (a<16)) (ck .i64 (4*a) (ck .i64 (4*a) (ck .i64 ((4*a)+4) (bb (0<=((4*a)+4)) (bb (0<=(4*a)) (bb ((4*a).toNat<=((4*a)+4).toNat) (bb (((4*a)+4).toNat<=c.length) (aDs N c a a (aaE (((4*a)+4).toNat-(4*a).toNat) (aaV (4*a).toNat c)) (((aaE (((4*a)+4).toNat-(4*a).toNat) (aaV (4*a).toNat c)).length:Nat):Int) 0 g b)))))))) (ck .i64 (a-15) (bb (0<=(a-15)) (bb ((a-15)<((64:Nat):Int)) (cw b.l ((a-15).toNat) fun e=>ck .i64 (a-2) (bb (0<=(a-2)) (bb ((a-2)<((64:Nat):Int)) (cw b.l ((a-2).toNat) fun f=>bj (cK N e (-7)) fun h=>bj (cK N e (-18)) fun i=>bj (cK N f (-17)) fun j=>bj (cK N f (-19)) fun k=>ck .i64 (a-16) (bb (0<=(a-16)) (bb ((a-16)<((64:Nat):Int)) (cw b.l ((a-16).toNat) fun m=>ck .i64 (a-7) (bb (0<=(a-7)) (bb ((a-7)<((64:Nat):Int)) (cw b.l ((a-7).toNat) fun n=>bb (0<=a) (bb (a<((64:Nat):Int)) (bb (a.toNat<64) (some (c,a,g,(bz.set b a.toNat (δ .u32 ((δ .u32 ((δ .u32 (m+(bits .xor .u32 (bits .xor .u32 h i) (e/(2^3)))))+n))+(bits .xor .u32 (bits .xor .u32 j k) (f/(2^10)))))))))))))))))))))))) fun d=>ck .i64 (d.2.1+1) (rec2 d.1 (d.2.1+1) d.2.2.1 d.2.2.2)) (some b)
def aFa(N:Nat):Nat->TC->Int->(bz 64)->(bz 64)->Option (bz 64):=aN [tH,tC,tN,tN] (T5 N)
def xL(N:Nat)(a:TC):Option (bz 64):=aFa N N a 0 (bz.zero 64) (bz.zero 64)
abbrev aIf(N:Nat):bx:=⟨147,⟨[(0,dd tH)],[],[]⟩,[⟨[(0,dd tN)],[],[]⟩],xL N⟩
theorem aIm(N:Nat):aF Tryz.prog (aIf N):=xf N (tc (qJ N) tn) [] [⟨7,true,⟨[(0,dd tH),(2,.apt (.O 0) 0),(3,.apt (.O 1) 0),(11,dd tC)],[],[some (.arr true 64 .u32 (bz.zero 64)),some (.arr true 64 .u32 (bz.zero 64))]⟩⟩,⟨13,false,⟨[(0,dd tH),(2,.apt (.O 0) 0),(3,.apt (.O 1) 0),(4,dd tC),(11,dd tC),(22,dd tH),(23,dd tC),(24,dd tC)],[],[some (.arr true 64 .u32 (bz.zero 64)),some (.arr true 64 .u32 (bz.zero 64))]⟩⟩,⟨4,false,⟨[(0,dd tH),(2,.apt (.O 0) 0),(3,.apt (.O 1) 0),(11,dd tC)],[],[some (.arr true 64 .u32 (bz.zero 64)),some (.arr true 64 .u32 (bz.zero 64))]⟩⟩] 0 Tryz.func147 rfl (by kernel_rfl) fun a=>by kernel_rfl
def FX(N:Nat)(a b:Int)(c d:Int):Option Int:=ck .i64 (-b) (bj (cK N a (-b)) fun e=>ck .i64 (-c) (bj (cK N a (-c)) fun f=>ck .i64 (-d) (bj (cK N a (-d)) fun g=>some (bits .xor .u32 (bits .xor .u32 e f) g))))
abbrev YD(N:Nat):bx:=⟨148,⟨[(0,dd tI),(1,dd tC),(2,dd tC),(3,dd tC)],[],[]⟩,[⟨[(0,dd tI)],[],[]⟩],FX N⟩
theorem ZR(N:Nat):aF Tryz.prog (YD N):=xf N (tc (qJ N) tn) [] [] 0 Tryz.func148 rfl (by kernel_rfl) fun a=>by kernel_rfl
def Ys(g:Int->(bz 8)->(bz 8)->(bz 4)->(bz 4)->Option (bz 8))(a:Int)(b h:(bz 8))(c d:(bz 4)):Option (bz 8):=bk (decide (a<4)) (bb (0<=a) (bb (a<((8:Nat):Int)) (cw b.l a.toNat fun e=>bb (0<=a) (bb (a<((4:Nat):Int)) (cw c.l a.toNat fun f=>bb (0<=a) (bb (a<((8:Nat):Int)) (bb (a.toNat<8) (ck .i64 (a+4) (bb (0<=(a+4)) (bb ((a+4)<((8:Nat):Int)) (cw ((bz.set b a.toNat (δ .u32 (e+f))).l) ((a+4).toNat) fun i=>bb (0<=a) (bb (a<((4:Nat):Int)) (cw d.l a.toNat fun j=>bb (0<=(a+4)) (bb ((a+4)<((8:Nat):Int)) (bb ((a+4).toNat<8) (ck .i64 (a+1) (g (a+1) (bz.set (bz.set b a.toNat (δ .u32 (e+f))) (a+4).toNat (δ .u32 (i+j))) h c d))))))))))))))))) (some b)
def Y8:Nat->Int->(bz 8)->(bz 8)->(bz 4)->(bz 4)->Option (bz 8):=aN [tC,(.ar 8 .u32),(.ar 8 .u32),(.ar 4 .u32),(.ar 4 .u32)] (Ys)
def U5(N:Nat)(rec4:(bz 64)->Int->(bz 8)->(bz 8)->(bz 64)->(bz 4)->(bz 4)->Option (bz 8))(d:(bz 64))(c:Int)(e f:(bz 8))(g:(bz 64))(a b:(bz 4)):Option (bz 8):=bk (decide (c<64)) (bB d.l c fun h=>cw b.l (3) fun i=>cw b.l (0) fun q=>bj (FX N q 6 11 25) fun j=>cw b.l (0) fun k=>cw b.l (1) fun m=>cw b.l (0) fun n=>cw b.l (2) fun o=>bb (0<=c) (bb (c<((64:Nat):Int)) (cw g.l c.toNat fun p=>cw a.l (0) fun r=>bj (FX N r 2 13 22) fun s=>cw a.l (0) fun t=>cw a.l (1) fun u=>cw a.l (0) fun v=>cw a.l (2) fun w=>cw a.l (1) fun x=>cw a.l (2) fun y=>cw a.l (3) fun z=>cw b.l (0) fun aa=>cw b.l (1) fun ab=>cw b.l (2) fun ac=>cw a.l (0) fun ad=>cw a.l (1) fun ae=>cw a.l (2) fun af=>ck .i64 (c+1) (rec4 d (c+1) e f g (bz.from [(δ .u32 ((δ .u32 ((δ .u32 ((δ .u32 ((δ .u32 (i+j))+(bits .xor .u32 (bits .and .u32 k m) (bits .and .u32 (bits .xor .u32 (ite ((IntKind.signed IntKind.u32)=true) (-1) (IntKind.max IntKind.u32)) n) o))))+h))+p))+(δ .u32 (s+(bits .xor .u32 (bits .xor .u32 (bits .and .u32 t u) (bits .and .u32 v w)) (bits .and .u32 x y)))))),ad,ae,af] 4) (bz.from [(δ .u32 (z+(δ .u32 ((δ .u32 ((δ .u32 ((δ .u32 (i+j))+(bits .xor .u32 (bits .and .u32 k m) (bits .and .u32 (bits .xor .u32 (ite ((IntKind.signed IntKind.u32)=true) (-1) (IntKind.max IntKind.u32)) n) o))))+h))+p)))),aa,ab,ac] 4))))) (Y8 N 0 e f a b)
def aD3(N:Nat):Nat->(bz 64)->Int->(bz 8)->(bz 8)->(bz 64)->(bz 4)->(bz 4)->Option (bz 8):=aN [tN,tC,(.ar 8 .u32),(.ar 8 .u32),tN,(.ar 4 .u32),(.ar 4 .u32)] (U5 N)
def xQ(N:Nat)(a:(bz 8))(b:TC):Option (bz 8):=bj (xL N b) fun c=>bb (a=a) (bb (a=a) (bb (a=a) (aD3 N N (bz.mk A6 (XS.ev._proof_1 A6)) 0 a (bz.zero 8) c (bz.part a 0 4) (bz.part a 4 4))))
abbrev aH7(N:Nat):bx:=⟨129,⟨[(0,dd (.ar 8 .u32)),(1,dd tH)],[],[]⟩,[⟨[(0,dd (.ar 8 .u32))],[],[]⟩],xQ N⟩
theorem aIp(N:Nat):aF Tryz.prog (aH7 N):=xf N (tc (aIm N) (tc (ZR N) tn)) [17,20] [⟨15,false,⟨[(2,.apt (.O 0) 0),(4,.apt (.O 1) 0),(6,.apt (.O 2) 0),(7,.apt (.O 3) 0),(94,dd tC)],[],[some (.arr true 8 .u32 (bz.zero 8)),some (.arr true 8 .u32 (bz.zero 8)),some (.arr true 4 .u32 (bz.zero 4)),some (.arr true 4 .u32 (bz.zero 4))]⟩⟩,⟨5,false,⟨[(2,.apt (.O 0) 0),(4,.apt (.O 1) 0),(5,.apt (.O 2) 0),(6,.apt (.O 3) 0),(7,.apt (.O 4) 0),(21,dd tN),(22,dd tC)],[],[some (.arr true 8 .u32 (bz.zero 8)),some (.arr true 8 .u32 (bz.zero 8)),some (.arr true 64 .u32 (bz.zero 64)),some (.arr true 4 .u32 (bz.zero 4)),some (.arr true 4 .u32 (bz.zero 4))]⟩⟩] 0 Tryz.func129 rfl (by kernel_rfl) fun a=>by kernel_rfl
def W9(N:Nat)(rec3:bw->TI->TI->Option TI)(b:bw)(a c:TI):Option TI:=bk (!(b==([]:bw))) (bb (0<=(δ .i64 (abf a.2.2 64))) (bb ((δ .i64 (abf a.2.2 64)).toNat<=64) (bb (((δ .i64 (abf a.2.2 64)).toNat+(64-(δ .i64 (abf a.2.2 64)).toNat))<=(kj.n (kj.mk 64 IntKind.u8 a.2.1))) (bb (0<=(((Min.min (bE b).length (64-(δ .i64 (abf a.2.2 64)).toNat)):Nat):Int)) (bb ((((Min.min (bE b).length (64-(δ .i64 (abf a.2.2 64)).toNat)):Nat):Int).toNat<=b.length) (bb (b.length<=b.length) (ck .i64 ((δ .i64 (abf a.2.2 64))+(((Min.min (bE b).length (64-(δ .i64 (abf a.2.2 64)).toNat)):Nat):Int)) (bk (((δ .i64 (abf a.2.2 64))+(((Min.min (bE b).length (64-(δ .i64 (abf a.2.2 64)).toNat)):Nat):Int))==64) (bb ((0+(64-0))<=(kj.n (kj.mk 64 IntKind.u8 (bz.put (kj.x (kj.mk 64 IntKind.u8 a.2.1)) (δ .i64 (abf a.2.2 64)).toNat (aaE (Min.min (bE b).length (64-(δ .i64 (abf a.2.2 64)).toNat)) (bE b)))))) (bj (xQ N a.1 (qy (kj.x (kj.mk 64 IntKind.u8 (bz.put (kj.x (kj.mk 64 IntKind.u8 a.2.1)) (δ .i64 (abf a.2.2 64)).toNat (aaE (Min.min (bE b).length (64-(δ .i64 (abf a.2.2 64)).toNat)) (bE b))))).l 0 (64-0) (kj.n (kj.mk 64 IntKind.u8 (bz.put (kj.x (kj.mk 64 IntKind.u8 a.2.1)) (δ .i64 (abf a.2.2 64)).toNat (aaE (Min.min (bE b).length (64-(δ .i64 (abf a.2.2 64)).toNat)) (bE b))))))) fun d=>rec3 (aaE (b.length-(((Min.min (bE b).length (64-(δ .i64 (abf a.2.2 64)).toNat)):Nat):Int).toNat) (aaV (((Min.min (bE b).length (64-(δ .i64 (abf a.2.2 64)).toNat)):Nat):Int).toNat b)) (d,((bz.put (kj.x (kj.mk 64 IntKind.u8 a.2.1)) (δ .i64 (abf a.2.2 64)).toNat (aaE (Min.min (bE b).length (64-(δ .i64 (abf a.2.2 64)).toNat)) (bE b))),(δ .u64 (a.2.2+(δ .u64 (((Min.min (bE b).length (64-(δ .i64 (abf a.2.2 64)).toNat)):Nat):Int)))))) c)) (rec3 (aaE (b.length-(((Min.min (bE b).length (64-(δ .i64 (abf a.2.2 64)).toNat)):Nat):Int).toNat) (aaV (((Min.min (bE b).length (64-(δ .i64 (abf a.2.2 64)).toNat)):Nat):Int).toNat b)) (a.1,((bz.put (kj.x (kj.mk 64 IntKind.u8 a.2.1)) (δ .i64 (abf a.2.2 64)).toNat (aaE (Min.min (bE b).length (64-(δ .i64 (abf a.2.2 64)).toNat)) (bE b))),(δ .u64 (a.2.2+(δ .u64 (((Min.min (bE b).length (64-(δ .i64 (abf a.2.2 64)).toNat)):Nat):Int)))))) c))))))))) (some a)
def Wd(N:Nat):Nat->bw->TI->TI->Option TI:=aN [.s,tG,tG] (W9 N)
def jJ(N:Nat)(a:TI)(b:bw):Option TI:=Wd N N b a ((bz.zero 8),((bz.zero 64),0))
abbrev Xq(N:Nat):bx:=⟨81,⟨[(0,dd tG),(1,dd .s)],[],[]⟩,[⟨[(0,dd tG)],[],[]⟩],jJ N⟩
theorem sZ(N:Nat):aF Tryz.prog (Xq N):=xf N (tc (aIp N) tn) [] [⟨2,false,⟨[(1,dd .s),(2,.rpt (.O 0) 0),(4,.rpt (.O 1) 0)],[],[some (.rb true tG (Ty.z tG)),some (.rb true tG (Ty.z tG))]⟩⟩] 0 Tryz.func81 rfl (by kernel_rfl) fun a=>by kernel_rfl
def aBi(d:Int->TI->(bz 32)->(bz 32)->Option (bz 32))(a:Int)(b:TI)(e c:(bz 32)):Option (bz 32):=bk (decide (a<32)) (ck .i64 (ac3 a 4) (bb (0<=(ac3 a 4)) (bb ((ac3 a 4)<((8:Nat):Int)) (cw ((kj.x (kj.mk 8 IntKind.u32 b.1)).l) ((ac3 a 4).toNat) fun f=>ck .i64 (8*(abf a 4)) (ck .i64 (24-(8*(abf a 4))) (bb (0<=(24-(8*(abf a 4)))) (bb ((24-(8*(abf a 4)))<=(((abQ .u32):Nat):Int)) (bb (0<=a) (bb (a<((32:Nat):Int)) (bb (a.toNat<32) (ck .i64 (a+1) (d (a+1) b e (bz.set c a.toNat (δ .u8 (f/(2^(24-(8*(abf a 4))).toNat)))))))))))))))) (some c)
def Tf:Nat->Int->TI->(bz 32)->(bz 32)->Option (bz 32):=aN [tC,tG,(.ar 32 .u8),(.ar 32 .u8)] (aBi)
def Uz(N:Nat)(g:Int->Int->TI->(bz 32)->TC->Option (bz 32))(c a:Int)(d:TI)(f:(bz 32))(b:TC):Option (bz 32):=bk (decide (a<8)) (ck .i64 (8*a) (ck .i64 (56-(8*a)) (bb (0<=(56-(8*a))) (bb ((56-(8*a))<=(((abQ .u64):Nat):Int)) (bf b.length b (bb (((b.length+[(δ .u8 (c/(2^(56-(8*a)).toNat)))].length)*1)<=140737488355328) (ck .i64 (a+1) (bf ((b++[(δ .u8 (c/(2^(56-(8*a)).toNat)))]).length) (b++[(δ .u8 (c/(2^(56-(8*a)).toNat)))]) (g c (a+1) d f (b++[(δ .u8 (c/(2^(56-(8*a)).toNat)))])))))))))) (bf b.length b (bj (jJ N d (bA b)) fun e=>Tf N 0 e f (bz.zero 32)))
def Xb(N:Nat):Nat->Int->Int->TI->(bz 32)->TC->Option (bz 32):=aN [tK,tC,tG,(.ar 32 .u8),tH] (Uz N)
def Z2(N:Nat)(rec2:Int->TI->(bz 32)->TC->Option (bz 32))(c:Int)(b:TI)(d:(bz 32))(a:TC):Option (bz 32):=ck .i64 ((δ .i64 b.2.2)+(a.length:Int)) (bk ((abf ((δ .i64 b.2.2)+(a.length:Int)) 64)!=56) (bf a.length a (bb (((a.length+[0].length)*1)<=140737488355328) (bf ((a++[0]).length) (a++[0]) (rec2 c b d (a++[0]))))) (bf a.length a (Xb N N c 0 b d a)))
def Zg(N:Nat):Nat->Int->TI->(bz 32)->TC->Option (bz 32):=aN [tK,tG,(.ar 32 .u8),tH] (Z2 N)
def sR(N:Nat)(a:TI):Option (bz 32):=Zg N N (δ .u64 (8*a.2.2)) a (bz.zero 32) [128]
abbrev Wn(N:Nat):bx:=⟨83,⟨[(0,dd tG)],[],[]⟩,[⟨[(0,dd (.ar 32 .u8))],[],[]⟩],sR N⟩
theorem SH(N:Nat):aF Tryz.prog (Wn N):=xf N (tc (sZ N) tn) [22,34] [⟨18,false,⟨[(1,.rpt (.O 0) 0),(2,.apt (.O 1) 0),(6,.apt (.O 2) 0),(40,dd tC)],[],[some (.rb true tG (Ty.z tG)),some (.arr true 32 .u8 (bz.zero 32)),some (.arr true 32 .u8 (bz.zero 32))]⟩⟩,⟨9,false,⟨[(1,.rpt (.O 0) 0),(2,.apt (.O 1) 0),(3,dd tK),(4,.slw (.O 2) (.i .u8) 0),(23,dd tC)],[],[some (.rb true tG (Ty.z tG)),some (.arr true 32 .u8 (bz.zero 32)),some (.row true (.i .u8) [])]⟩⟩,⟨4,false,⟨[(1,.rpt (.O 0) 0),(2,.apt (.O 1) 0),(3,dd tK),(4,.slw (.O 2) (.i .u8) 0)],[],[some (.rb true tG (Ty.z tG)),some (.arr true 32 .u8 (bz.zero 32)),some (.row true (.i .u8) [])]⟩⟩] 0 Tryz.func83 rfl (by kernel_rfl) fun a=>by kernel_rfl
def Un(N:Nat)(g:TK->Int->Int->(bz 16)->TI->Option (bz 16))(e:TK)(f b:Int)(h:(bz 16))(a:TI):Option (bz 16):=bk (decide (b<f)) (bB e b fun i=>bj (nL N i) fun c=>bf c.length c (bj (jJ N a (bA c)) fun d=>ck .i64 (b+1) (g e f (b+1) h d))) (bj (sR N a) fun j=>some (bz.part j 0 16))
def ZC(N:Nat):Nat->TK->Int->Int->(bz 16)->TI->Option (bz 16):=aN [(.sl .s),tC,tC,(.ar 16 .u8),tG] (Un N)
def HL(N:Nat)(d:Int)(c:TK):Option (bz 16):=bj (LV N) fun a=>bj (jJ N a (bA [(δ .u8 d)])) fun b=>ZC N N c (c.length:Int) 0 (bz.zero 16) b
abbrev VE(N:Nat):bx:=⟨34,⟨[(0,dd tC),(1,dd (.sl .s))],[],[]⟩,[⟨[(0,dd (.ar 16 .u8))],[],[]⟩],HL N⟩
theorem LC(N:Nat):aF Tryz.prog (VE N):=xf N (tc (X7 N) (tc (sZ N) (tc (N6 N) (tc (SH N) tn)))) [] [⟨4,false,⟨[(4,.apt (.O 0) 0),(5,.rpt (.O 1) 0),(15,dd (.sl .s)),(16,dd tC),(17,dd tC)],[],[some (.arr true 16 .u8 (bz.zero 16)),some (.rb true tG (Ty.z tG))]⟩⟩] 0 Tryz.func34 rfl (by kernel_rfl) fun a=>by kernel_rfl
def KO(N:Nat)(a:TF):Option ((bz 16)×Int):=bj (iM N a) fun b=>bk (b.2!=0) (some ((bz.zero 16),b.2)) (bj (HL N 196 [b.1]) fun c=>some (c,0))
abbrev aRe(N:Nat):bx:=⟨15,⟨[(0,dd tD)],[],[]⟩,[⟨[(0,dd (.ar 16 .u8)),(1,dd tC)],[],[]⟩],KO N⟩
theorem Xc(N:Nat):aF Tryz.prog (aRe N):=xf N (tc (pA N) (tc (LC N) tn)) [] [] 0 Tryz.func15 rfl (by kernel_rfl) fun a=>by kernel_rfl
def gG(N:Nat):Option Bool:=bj (xF N) fun i=>bf i.1.length i.1 (bf i.2.length i.2 (bj (xJ N i.1 i.2) fun n=>bf i.1.length i.1 (bf i.2.length i.2 (bj (Lh N i.1 i.2 1) fun u=>bj (iM N (u.1,(u.2.1,u.2.2.1))) fun x=>bj (bk (n.1!=0) (bf i.1.length i.1 (bf i.2.length i.2 (bf n.2.length n.2 (some (true,i.1,i.2,n.2))))) (bk (u.2.2.2!=0) (bf i.1.length i.1 (bf i.2.length i.2 (bf n.2.length n.2 (some (true,i.1,i.2,n.2))))) (bk (x.2!=0) (bf i.1.length i.1 (bf i.2.length i.2 (bf n.2.length n.2 (some (true,i.1,i.2,n.2))))) (bk ((n.2.length:Int)!=2) (bf i.1.length i.1 (bf i.2.length i.2 (bf n.2.length n.2 (some (true,i.1,i.2,n.2))))) (bf i.1.length i.1 (bf i.2.length i.2 (bf n.2.length n.2 (some ((!(x.1==([2,0]:bw))),i.1,i.2,n.2))))))))) fun a=>bk a.1 (some false) (bb (0<(a.2.1.length:Int)) (cw a.2.1 (0) fun e=>bb (2<(a.2.1.length:Int)) (cw a.2.1 (2) fun f=>bb (2<=a.2.1.length) (bb (2<=a.2.1.length) (bb (a.2.1.length<=a.2.1.length) (bb (0<(a.2.1.length:Int)) (cw a.2.1 (0) fun b=>bb (2<(a.2.1.length:Int)) (cw a.2.1 (2) fun c=>cw ([b,c]) (0) fun d=>bb ((2+(a.2.1.length-2))<=a.2.1.length) (bj (cN N (0,((aaE (a.2.1.length-2) (aaV 2 a.2.1)),([]:TA))) (0,([e,f],([]:TA)))) fun j=>bf ([(Operand.tmp 86),(Operand.tmp 89)].length) (aaO [b,c] 0 (d.1,(d.2.1,(d.2.2.1,(d.2.2.2.1,(51,d.2.2.2.2.2)))))) (bj (cW N (0,([e,f],([]:TA))) (0,((aaO [b,c] 0 (d.1,(d.2.1,(d.2.2.1,(d.2.2.2.1,(51,d.2.2.2.2.2)))))),([]:TA)))) fun k=>bb ((1+(2-1))<=a.2.1.length) (bf a.2.2.1.length a.2.2.1 (bj (iM N (2,((aaE (2-1) (aaV 1 a.2.1)),a.2.2.1))) fun p=>bj (vL N p.1) fun m=>bb ((1+(2-1))<=a.2.1.length) (bf a.2.2.1.length a.2.2.1 (bj (KO N (2,((aaE (2-1) (aaV 1 a.2.1)),a.2.2.1))) fun q=>bb ((1+(2-1))<=a.2.1.length) (bf a.2.2.1.length a.2.2.1 (bb ((1+(2-1))<=a.2.1.length) (bf a.2.2.1.length a.2.2.1 (bj (Q8 N [(2,((aaE (2-1) (aaV 1 a.2.1)),a.2.2.1)),(0,([e,f],([]:TA))),(2,((aaE (2-1) (aaV 1 a.2.1)),a.2.2.1))]) fun h=>bf ([(Operand.tmp 86),(Operand.tmp 89)].length) (aaO [b,c] 0 (d.1,(d.2.1,(d.2.2.1,(d.2.2.2.1,(51,d.2.2.2.2.2)))))) (bj (aT N (0,([e,f],([]:TA))) (0,((aaO [b,c] 0 (d.1,(d.2.1,(d.2.2.1,(d.2.2.2.1,(51,d.2.2.2.2.2)))))),([]:TA)))) fun y=>bj (bk (j.2.2.2==0) (bk (k.1==0) (bk (p.2==0) (bk (m.2.2.2==0) (bk (q.2==0) (bk (h.1==0) (bf a.2.1.length a.2.1 (bf a.2.2.1.length a.2.2.1 (bf a.2.2.2.length a.2.2.2 (bf k.2.length k.2 (bf h.2.1.length h.2.1 (bf h.2.2.length h.2.2 (bf a.2.2.1.length a.2.2.1 (bf ([(Operand.tmp 86),(Operand.tmp 89)].length) (aaO [b,c] 0 (d.1,(d.2.1,(d.2.2.1,(d.2.2.2.1,(51,d.2.2.2.2.2)))))) (some (p.1,(y.2.2.2==24),a.2.1,a.2.2.1,a.2.2.2,(0:Int),(2:Int),((1:Nat):Int),(((2-1):Nat):Int),(0:Int),j.1,j.2.1,j.2.2.1,k.2,m.1,m.2.1,m.2.2.1,q.1,h.2.1,h.2.2,[e,f],([]:TA),(aaO [b,c] 0 (d.1,(d.2.1,(d.2.2.1,(d.2.2.2.1,(51,d.2.2.2.2.2)))))),([]:TA))))))))))) (bf a.2.1.length a.2.1 (bf a.2.2.1.length a.2.2.1 (bf a.2.2.2.length a.2.2.2 (bf k.2.length k.2 (bf h.2.1.length h.2.1 (bf h.2.2.length h.2.2 (bf a.2.2.1.length a.2.2.1 (bf ([(Operand.tmp 86),(Operand.tmp 89)].length) (aaO [b,c] 0 (d.1,(d.2.1,(d.2.2.1,(d.2.2.2.1,(51,d.2.2.2.2.2)))))) (some (p.1,false,a.2.1,a.2.2.1,a.2.2.2,(0:Int),(2:Int),((1:Nat):Int),(((2-1):Nat):Int),(0:Int),j.1,j.2.1,j.2.2.1,k.2,m.1,m.2.1,m.2.2.1,q.1,h.2.1,h.2.2,[e,f],([]:TA),(aaO [b,c] 0 (d.1,(d.2.1,(d.2.2.1,(d.2.2.2.1,(51,d.2.2.2.2.2)))))),([]:TA)))))))))))) (bf a.2.1.length a.2.1 (bf a.2.2.1.length a.2.2.1 (bf a.2.2.2.length a.2.2.2 (bf k.2.length k.2 (bf h.2.1.length h.2.1 (bf h.2.2.length h.2.2 (bf a.2.2.1.length a.2.2.1 (bf ([(Operand.tmp 86),(Operand.tmp 89)].length) (aaO [b,c] 0 (d.1,(d.2.1,(d.2.2.1,(d.2.2.2.1,(51,d.2.2.2.2.2)))))) (some (p.1,false,a.2.1,a.2.2.1,a.2.2.2,(0:Int),(2:Int),((1:Nat):Int),(((2-1):Nat):Int),(0:Int),j.1,j.2.1,j.2.2.1,k.2,m.1,m.2.1,m.2.2.1,q.1,h.2.1,h.2.2,[e,f],([]:TA),(aaO [b,c] 0 (d.1,(d.2.1,(d.2.2.1,(d.2.2.2.1,(51,d.2.2.2.2.2)))))),([]:TA)))))))))))) (bf a.2.1.length a.2.1 (bf a.2.2.1.length a.2.2.1 (bf a.2.2.2.length a.2.2.2 (bf k.2.length k.2 (bf h.2.1.length h.2.1 (bf h.2.2.length h.2.2 (bf a.2.2.1.length a.2.2.1 (bf ([(Operand.tmp 86),(Operand.tmp 89)].length) (aaO [b,c] 0 (d.1,(d.2.1,(d.2.2.1,(d.2.2.2.1,(51,d.2.2.2.2.2)))))) (some (p.1,false,a.2.1,a.2.2.1,a.2.2.2,(0:Int),(2:Int),((1:Nat):Int),(((2-1):Nat):Int),(0:Int),j.1,j.2.1,j.2.2.1,k.2,m.1,m.2.1,m.2.2.1,q.1,h.2.1,h.2.2,[e,f],([]:TA),(aaO [b,c] 0 (d.1,(d.2.1,(d.2.2.1,(d.2.2.2.1,(51,d.2.2.2.2.2)))))),([]:TA)))))))))))) (bf a.2.1.length a.2.1 (bf a.2.2.1.length a.2.2.1 (bf a.2.2.2.length a.2.2.2 (bf k.2.length k.2 (bf h.2.1.length h.2.1 (bf h.2.2.length h.2.2 (bf a.2.2.1.length a.2.2.1 (bf ([(Operand.tmp 86),(Operand.tmp 89)].length) (aaO [b,c] 0 (d.1,(d.2.1,(d.2.2.1,(d.2.2.2.1,(51,d.2.2.2.2.2)))))) (some (p.1,false,a.2.1,a.2.2.1,a.2.2.2,(0:Int),(2:Int),((1:Nat):Int),(((2-1):Nat):Int),(0:Int),j.1,j.2.1,j.2.2.1,k.2,m.1,m.2.1,m.2.2.1,q.1,h.2.1,h.2.2,[e,f],([]:TA),(aaO [b,c] 0 (d.1,(d.2.1,(d.2.2.1,(d.2.2.2.1,(51,d.2.2.2.2.2)))))),([]:TA)))))))))))) (bf a.2.1.length a.2.1 (bf a.2.2.1.length a.2.2.1 (bf a.2.2.2.length a.2.2.2 (bf k.2.length k.2 (bf h.2.1.length h.2.1 (bf h.2.2.length h.2.2 (bf a.2.2.1.length a.2.2.1 (bf ([(Operand.tmp 86),(Operand.tmp 89)].length) (aaO [b,c] 0 (d.1,(d.2.1,(d.2.2.1,(d.2.2.2.1,(51,d.2.2.2.2.2)))))) (some (p.1,false,a.2.1,a.2.2.1,a.2.2.2,(0:Int),(2:Int),((1:Nat):Int),(((2-1):Nat):Int),(0:Int),j.1,j.2.1,j.2.2.1,k.2,m.1,m.2.1,m.2.2.1,q.1,h.2.1,h.2.2,[e,f],([]:TA),(aaO [b,c] 0 (d.1,(d.2.1,(d.2.2.1,(d.2.2.2.1,(51,d.2.2.2.2.2)))))),([]:TA)))))))))))) (bf a.2.1.length a.2.1 (bf a.2.2.1.length a.2.2.1 (bf a.2.2.2.length a.2.2.2 (bf k.2.length k.2 (bf h.2.1.length h.2.1 (bf h.2.2.length h.2.2 (bf a.2.2.1.length a.2.2.1 (bf ([(Operand.tmp 86),(Operand.tmp 89)].length) (aaO [b,c] 0 (d.1,(d.2.1,(d.2.2.1,(d.2.2.2.1,(51,d.2.2.2.2.2)))))) (some (p.1,false,a.2.1,a.2.2.1,a.2.2.2,(0:Int),(2:Int),((1:Nat):Int),(((2-1):Nat):Int),(0:Int),j.1,j.2.1,j.2.2.1,k.2,m.1,m.2.1,m.2.2.1,q.1,h.2.1,h.2.2,[e,f],([]:TA),(aaO [b,c] 0 (d.1,(d.2.1,(d.2.2.1,(d.2.2.2.1,(51,d.2.2.2.2.2)))))),([]:TA)))))))))))) fun g=>bj (bk g.2.1 (bb (0<(g.2.2.2.2.1.length:Int)) (cw g.2.2.2.2.1 (0) fun v=>bf g.2.2.2.2.2.2.2.2.2.2.2.2.2.2.2.2.2.2.2.2.1.length g.2.2.2.2.2.2.2.2.2.2.2.2.2.2.2.2.2.2.2.2.1 (bf g.2.2.2.2.2.2.2.2.2.2.2.2.2.2.2.2.2.2.2.2.2.1.length g.2.2.2.2.2.2.2.2.2.2.2.2.2.2.2.2.2.2.2.2.2.1 (bj (cO N v (g.2.2.2.2.2.1,(g.2.2.2.2.2.2.2.2.2.2.2.2.2.2.2.2.2.2.2.2.1,g.2.2.2.2.2.2.2.2.2.2.2.2.2.2.2.2.2.2.2.2.2.1))) fun z=>bk z (bb (1<(g.2.2.2.2.1.length:Int)) (cw g.2.2.2.2.1 (1) fun w=>bb ((g.2.2.2.2.2.2.2.1.toNat+g.2.2.2.2.2.2.2.2.1.toNat)<=g.2.2.1.length) (bf g.2.2.2.1.length g.2.2.2.1 (bj (cO N w (g.2.2.2.2.2.2.1,((aaE g.2.2.2.2.2.2.2.2.1.toNat (aaV g.2.2.2.2.2.2.2.1.toNat g.2.2.1)),g.2.2.2.1))) fun aa=>bk aa (bb (1<=g.2.2.1.length) (bb ((0+1)<=g.2.2.1.length) (bj (cO N (g.2.2.2.2.2.2.2.2.2.2.1,(g.2.2.2.2.2.2.2.2.2.2.2.1,g.2.2.2.2.2.2.2.2.2.2.2.2.1)) (0,((aaE 1 (aaV 0 g.2.2.1)),([]:TA)))) fun ab=>bk ab (bk ((g.2.2.2.2.2.2.2.2.2.2.2.2.2.1.length:Int)==1) (bb (0<(g.2.2.2.2.2.2.2.2.2.2.2.2.2.1.length:Int)) (cw g.2.2.2.2.2.2.2.2.2.2.2.2.2.1 (0) fun o=>bb (0<(g.2.2.1.length:Int)) (cw g.2.2.1 (0) fun r=>bb (0<(g.2.2.2.2.2.2.2.2.2.2.2.2.2.2.2.2.2.2.2.2.2.2.1.length:Int)) (cw g.2.2.2.2.2.2.2.2.2.2.2.2.2.2.2.2.2.2.2.2.2.2.1 (0) fun t=>bk (oJ [(Sh.s 1),(Sh.s 1),(Sh.s 1),(Sh.s 1),(Sh.s 1),(Sh.s 1),(Sh.s 1),(Sh.s 1),(Sh.s 1),(Sh.s 1),(Sh.s 1)] (o.1.1==r.1) (oJ [(Sh.s 1),(Sh.s 1),(Sh.s 1),(Sh.s 1),(Sh.s 1),(Sh.s 1),(Sh.s 1),(Sh.s 1),(Sh.s 1),(Sh.s 1)] (o.1.2.1==r.2.1) (oJ [(Sh.s 1),(Sh.s 1),(Sh.s 1),(Sh.s 1),(Sh.s 1),(Sh.s 1),(Sh.s 1),(Sh.s 1),(Sh.s 1)] (o.1.2.2.1==r.2.2.1) (oJ [(Sh.s 1),(Sh.s 1),(Sh.s 1),(Sh.s 1),(Sh.s 1),(Sh.s 1),(Sh.s 1),(Sh.s 1)] (o.1.2.2.2.1==r.2.2.2.1) (oJ [(Sh.s 1),(Sh.s 1),(Sh.s 1),(Sh.s 1),(Sh.s 1),(Sh.s 1),(Sh.s 1)] (o.1.2.2.2.2.1==r.2.2.2.2.1) (oJ [(Sh.s 1),(Sh.s 1),(Sh.s 1),(Sh.s 1),(Sh.s 1),(Sh.s 1)] (o.1.2.2.2.2.2==r.2.2.2.2.2) (oJ [(Sh.s 1),(Sh.s 1),(Sh.s 1),(Sh.s 1),(Sh.s 1)] (o.2.1==t.1) (oJ [(Sh.s 1),(Sh.s 1),(Sh.s 1),(Sh.s 1)] (o.2.2.1==t.2.1) (oJ [(Sh.s 1),(Sh.s 1),(Sh.s 1)] (o.2.2.2.1==t.2.2.1) (oJ [(Sh.s 1),(Sh.s 1)] (o.2.2.2.2.1==t.2.2.2.1) (oJ [(Sh.s 1)] (o.2.2.2.2.2.1==t.2.2.2.2.1) (oJ ([]:(List Sh)) (o.2.2.2.2.2.2==t.2.2.2.2.2) true)))))))))))) (bb ((g.2.2.2.2.2.2.2.1.toNat+g.2.2.2.2.2.2.2.2.1.toNat)<=g.2.2.1.length) (bf g.2.2.2.1.length g.2.2.2.1 (bj (cO N (g.2.2.2.2.2.2.2.2.2.2.2.2.2.2.1,(g.2.2.2.2.2.2.2.2.2.2.2.2.2.2.2.1,g.2.2.2.2.2.2.2.2.2.2.2.2.2.2.2.2.1)) (g.2.2.2.2.2.2.1,((aaE g.2.2.2.2.2.2.2.2.1.toNat (aaV g.2.2.2.2.2.2.2.1.toNat g.2.2.1)),g.2.2.2.1))) fun ac=>bk ac (bj (HL N 196 [g.1]) fun ad=>bk (g.2.2.2.2.2.2.2.2.2.2.2.2.2.2.2.2.2.1.l==ad.l) (bf g.2.2.2.2.2.2.2.2.2.2.2.2.2.2.2.2.2.2.1.length g.2.2.2.2.2.2.2.2.2.2.2.2.2.2.2.2.2.2.1 (bf g.2.2.1.length g.2.2.1 (bj (nS N g.2.2.2.2.2.2.2.2.2.2.2.2.2.2.2.2.2.2.1 g.2.2.1) fun ae=>bk ae (bf g.2.2.2.2.2.2.2.2.2.2.2.2.2.2.2.2.2.2.2.1.length g.2.2.2.2.2.2.2.2.2.2.2.2.2.2.2.2.2.2.2.1 (bf g.2.2.2.1.length g.2.2.2.1 (bj (iK N g.2.2.2.2.2.2.2.2.2.2.2.2.2.2.2.2.2.2.2.1 g.2.2.2.1) fun af=>some af))) (some false)))) (some false)) (some false)))) (some false))))) (some false)) (some false)))) (some false))))) (some false))))) (some false)) fun ag=>some ag)))))))))))))))))))))))
abbrev SF(N:Nat):bx:=⟨10,⟨[],[],[]⟩,[⟨[(0,dd .b)],[],[]⟩],gG N⟩
theorem aM3(N:Nat):aF Tryz.prog (SF N):=xf N (tc (Z5 N) (tc (YJ N) (tc (WN N) (tc (pA N) (tc (sT N) (tc (tR N) (tc (W3 N) (tc (Xc N) (tc (SY N) (tc (xC N) (tc (MB N) (tc (LC N) (tc (Qx N) (tc (uY N) tn)))))))))))))) [] [⟨21,true,⟨[(0,dd .b)],[],[]⟩⟩,⟨20,true,⟨[(1,.slw (.O 0) tB 0),(2,.slw (.O 1) tA 0),(3,.slw (.O 2) tD 0),(9,.ptr (.O 3) 0),(10,.ptr (.O 4) 0),(12,.ptr (.O 5) 0),(13,.ptr (.O 6) 0),(15,.slw (.O 7) tL 0),(17,dd .s),(19,.ptr (.O 8) 0),(21,.apt (.O 9) 0),(23,.slw (.O 10) tB 0),(24,.slw (.O 11) tA 0),(28,dd .b)],[],[some (.row false tB []),some (.row false tA []),some (.row true tD []),some (.box [dd tC,.slw (.O 12) tB 0,.slw (.O 13) tA 0]),some (.box [dd tC,.sl (.O 0) tB 0 0,.slw (.O 1) tA 0]),some (.box [dd tC,.slw (.O 14) tB 0,.slw (.O 15) tA 0]),some (.box [dd tC,dd (.sl tB),dd (.sl tA)]),some (.row true tL []),some (.box [dd tC,dd (.sl tB),dd (.sl tA)]),some (.arr true 16 .u8 (bz.zero 16)),some (.row true tB []),some (.row true tA []),some (.row false tB []),some (.row true tA []),some (.row false tB []),some (.row true tA [])]⟩⟩,⟨6,true,⟨[(1,.slw (.O 0) tB 0),(2,.slw (.O 1) tA 0),(3,.slw (.O 2) tD 0),(68,dd .b)],[],[some (.row false tB []),some (.row false tA []),some (.row true tD [])]⟩⟩] 0 Tryz.func10 rfl (by kernel_rfl) fun a=>by kernel_rfl
def fH(N:Nat)(e f g:TF):Option Bool:=bj (bj (nB N e) fun r=>bk (!r) (some (true,e.1,e.2.1,e.2.2,f.1,f.2.1,f.2.2,g.1,g.2.1,g.2.2)) (bj (nB N f) fun s=>bk (!s) (some (true,e.1,e.2.1,e.2.2,f.1,f.2.1,f.2.2,g.1,g.2.1,g.2.2)) (bj (nB N g) fun t=>some ((!t),e.1,e.2.1,e.2.2,f.1,f.2.1,f.2.2,g.1,g.2.1,g.2.2)))) fun b=>bk b.1 (bj (gG N) fun u=>some u) (bj (aT N (b.2.1,(b.2.2.1,b.2.2.2.1)) (b.2.2.2.2.1,(b.2.2.2.2.2.1,b.2.2.2.2.2.2.1))) fun h=>bj (aT N (b.2.2.2.2.1,(b.2.2.2.2.2.1,b.2.2.2.2.2.2.1)) (b.2.1,(b.2.2.1,b.2.2.2.1))) fun i=>bj (cW N (b.2.1,(b.2.2.1,b.2.2.2.1)) (b.2.2.2.2.1,(b.2.2.2.2.2.1,b.2.2.2.2.2.2.1))) fun j=>bj (cN N (b.2.1,(b.2.2.1,b.2.2.2.1)) (b.2.2.2.2.1,(b.2.2.2.2.2.1,b.2.2.2.2.2.2.1))) fun k=>bj (bk (h.2.2.2!=0) (bf j.2.length j.2 (some (h.2.2.2,i.2.2.2,j.1,k.2.2.2,true,b.2.1,b.2.2.1,b.2.2.2.1,b.2.2.2.2.1,b.2.2.2.2.2.1,b.2.2.2.2.2.2.1,b.2.2.2.2.2.2.2.1,b.2.2.2.2.2.2.2.2.1,b.2.2.2.2.2.2.2.2.2,h.1,h.2.1,h.2.2.1,i.1,i.2.1,i.2.2.1,j.2,k.1,k.2.1,k.2.2.1))) (bf j.2.length j.2 (some (h.2.2.2,i.2.2.2,j.1,k.2.2.2,(i.2.2.2!=0),b.2.1,b.2.2.1,b.2.2.2.1,b.2.2.2.2.1,b.2.2.2.2.2.1,b.2.2.2.2.2.2.1,b.2.2.2.2.2.2.2.1,b.2.2.2.2.2.2.2.2.1,b.2.2.2.2.2.2.2.2.2,h.1,h.2.1,h.2.2.1,i.1,i.2.1,i.2.2.1,j.2,k.1,k.2.1,k.2.2.1)))) fun a=>bk a.2.2.2.2.1 (bj (bj (gG N) fun v=>bk v (bk ((a.1!=0)==(a.2.1!=0)) (bk (a.2.2.1!=0) (some true) (bk (a.1!=24) (some true) (bk (decide ((a.2.2.2.2.2.2.2.2.2.2.2.2.2.2.2.2.2.2.2.2.1.length:Int)>0)) (some true) (bk (decide ((a.2.2.2.2.2.2.2.1.length:Int)>0)) (some (decide ((a.2.2.2.2.2.2.2.2.2.2.1.length:Int)>0))) (some false))))) (some false)) (some false)) fun w=>some w) (bj (aT N (a.2.2.2.2.2.1,(a.2.2.2.2.2.2.1,a.2.2.2.2.2.2.2.1)) (a.2.2.2.2.2.1,(a.2.2.2.2.2.2.1,a.2.2.2.2.2.2.2.1))) fun m=>bj (aT N (a.2.2.2.2.2.1,(a.2.2.2.2.2.2.1,a.2.2.2.2.2.2.2.1)) a.2.2.2.2.2.2.2.2.2.2.2.2.2.2.2.2.2.2.2.2.2) fun n=>bj (cN N (a.2.2.2.2.2.2.2.2.2.2.2.2.2.2.1,(a.2.2.2.2.2.2.2.2.2.2.2.2.2.2.2.1,a.2.2.2.2.2.2.2.2.2.2.2.2.2.2.2.2.1)) (a.2.2.2.2.2.2.2.2.1,(a.2.2.2.2.2.2.2.2.2.1,a.2.2.2.2.2.2.2.2.2.2.1))) fun l=>bj (bk (a.2.2.1!=0) (some (true,a.2.2.2.2.2.1,a.2.2.2.2.2.2.1,a.2.2.2.2.2.2.2.1,a.2.2.2.2.2.2.2.2.1,a.2.2.2.2.2.2.2.2.2.1,a.2.2.2.2.2.2.2.2.2.2.1,a.2.2.2.2.2.2.2.2.2.2.2.1,a.2.2.2.2.2.2.2.2.2.2.2.2.1,a.2.2.2.2.2.2.2.2.2.2.2.2.2.1,a.2.2.2.2.2.2.2.2.2.2.2.2.2.2.1,a.2.2.2.2.2.2.2.2.2.2.2.2.2.2.2.1,a.2.2.2.2.2.2.2.2.2.2.2.2.2.2.2.2.1,a.2.2.2.2.2.2.2.2.2.2.2.2.2.2.2.2.2.2.2.2.2.1,a.2.2.2.2.2.2.2.2.2.2.2.2.2.2.2.2.2.2.2.2.2.2.1,a.2.2.2.2.2.2.2.2.2.2.2.2.2.2.2.2.2.2.2.2.2.2.2)) (bk (a.2.2.2.1!=0) (some (true,a.2.2.2.2.2.1,a.2.2.2.2.2.2.1,a.2.2.2.2.2.2.2.1,a.2.2.2.2.2.2.2.2.1,a.2.2.2.2.2.2.2.2.2.1,a.2.2.2.2.2.2.2.2.2.2.1,a.2.2.2.2.2.2.2.2.2.2.2.1,a.2.2.2.2.2.2.2.2.2.2.2.2.1,a.2.2.2.2.2.2.2.2.2.2.2.2.2.1,a.2.2.2.2.2.2.2.2.2.2.2.2.2.2.1,a.2.2.2.2.2.2.2.2.2.2.2.2.2.2.2.1,a.2.2.2.2.2.2.2.2.2.2.2.2.2.2.2.2.1,a.2.2.2.2.2.2.2.2.2.2.2.2.2.2.2.2.2.2.2.2.2.1,a.2.2.2.2.2.2.2.2.2.2.2.2.2.2.2.2.2.2.2.2.2.2.1,a.2.2.2.2.2.2.2.2.2.2.2.2.2.2.2.2.2.2.2.2.2.2.2)) (bk (m.2.2.2!=0) (some (true,a.2.2.2.2.2.1,a.2.2.2.2.2.2.1,a.2.2.2.2.2.2.2.1,a.2.2.2.2.2.2.2.2.1,a.2.2.2.2.2.2.2.2.2.1,a.2.2.2.2.2.2.2.2.2.2.1,a.2.2.2.2.2.2.2.2.2.2.2.1,a.2.2.2.2.2.2.2.2.2.2.2.2.1,a.2.2.2.2.2.2.2.2.2.2.2.2.2.1,a.2.2.2.2.2.2.2.2.2.2.2.2.2.2.1,a.2.2.2.2.2.2.2.2.2.2.2.2.2.2.2.1,a.2.2.2.2.2.2.2.2.2.2.2.2.2.2.2.2.1,a.2.2.2.2.2.2.2.2.2.2.2.2.2.2.2.2.2.2.2.2.2.1,a.2.2.2.2.2.2.2.2.2.2.2.2.2.2.2.2.2.2.2.2.2.2.1,a.2.2.2.2.2.2.2.2.2.2.2.2.2.2.2.2.2.2.2.2.2.2.2)) (bk (n.2.2.2!=0) (some (true,a.2.2.2.2.2.1,a.2.2.2.2.2.2.1,a.2.2.2.2.2.2.2.1,a.2.2.2.2.2.2.2.2.1,a.2.2.2.2.2.2.2.2.2.1,a.2.2.2.2.2.2.2.2.2.2.1,a.2.2.2.2.2.2.2.2.2.2.2.1,a.2.2.2.2.2.2.2.2.2.2.2.2.1,a.2.2.2.2.2.2.2.2.2.2.2.2.2.1,a.2.2.2.2.2.2.2.2.2.2.2.2.2.2.1,a.2.2.2.2.2.2.2.2.2.2.2.2.2.2.2.1,a.2.2.2.2.2.2.2.2.2.2.2.2.2.2.2.2.1,a.2.2.2.2.2.2.2.2.2.2.2.2.2.2.2.2.2.2.2.2.2.1,a.2.2.2.2.2.2.2.2.2.2.2.2.2.2.2.2.2.2.2.2.2.2.1,a.2.2.2.2.2.2.2.2.2.2.2.2.2.2.2.2.2.2.2.2.2.2.2)) (bk (l.2.2.2!=0) (some (true,a.2.2.2.2.2.1,a.2.2.2.2.2.2.1,a.2.2.2.2.2.2.2.1,a.2.2.2.2.2.2.2.2.1,a.2.2.2.2.2.2.2.2.2.1,a.2.2.2.2.2.2.2.2.2.2.1,a.2.2.2.2.2.2.2.2.2.2.2.1,a.2.2.2.2.2.2.2.2.2.2.2.2.1,a.2.2.2.2.2.2.2.2.2.2.2.2.2.1,a.2.2.2.2.2.2.2.2.2.2.2.2.2.2.1,a.2.2.2.2.2.2.2.2.2.2.2.2.2.2.2.1,a.2.2.2.2.2.2.2.2.2.2.2.2.2.2.2.2.1,a.2.2.2.2.2.2.2.2.2.2.2.2.2.2.2.2.2.2.2.2.2.1,a.2.2.2.2.2.2.2.2.2.2.2.2.2.2.2.2.2.2.2.2.2.2.1,a.2.2.2.2.2.2.2.2.2.2.2.2.2.2.2.2.2.2.2.2.2.2.2)) (bk (decide ((a.2.2.2.2.2.2.2.2.2.2.2.2.2.2.2.2.2.2.2.2.1.length:Int)>0)) (some (true,a.2.2.2.2.2.1,a.2.2.2.2.2.2.1,a.2.2.2.2.2.2.2.1,a.2.2.2.2.2.2.2.2.1,a.2.2.2.2.2.2.2.2.2.1,a.2.2.2.2.2.2.2.2.2.2.1,a.2.2.2.2.2.2.2.2.2.2.2.1,a.2.2.2.2.2.2.2.2.2.2.2.2.1,a.2.2.2.2.2.2.2.2.2.2.2.2.2.1,a.2.2.2.2.2.2.2.2.2.2.2.2.2.2.1,a.2.2.2.2.2.2.2.2.2.2.2.2.2.2.2.1,a.2.2.2.2.2.2.2.2.2.2.2.2.2.2.2.2.1,a.2.2.2.2.2.2.2.2.2.2.2.2.2.2.2.2.2.2.2.2.2.1,a.2.2.2.2.2.2.2.2.2.2.2.2.2.2.2.2.2.2.2.2.2.2.1,a.2.2.2.2.2.2.2.2.2.2.2.2.2.2.2.2.2.2.2.2.2.2.2)) (bj (cO N (a.2.2.2.2.2.2.2.2.2.2.2.2.2.2.1,(a.2.2.2.2.2.2.2.2.2.2.2.2.2.2.2.1,a.2.2.2.2.2.2.2.2.2.2.2.2.2.2.2.2.1)) (a.2.2.2.2.2.2.2.2.2.2.2.2.2.2.2.2.2.1,(a.2.2.2.2.2.2.2.2.2.2.2.2.2.2.2.2.2.2.1,a.2.2.2.2.2.2.2.2.2.2.2.2.2.2.2.2.2.2.2.1))) fun x=>bk (!x) (some (true,a.2.2.2.2.2.1,a.2.2.2.2.2.2.1,a.2.2.2.2.2.2.2.1,a.2.2.2.2.2.2.2.2.1,a.2.2.2.2.2.2.2.2.2.1,a.2.2.2.2.2.2.2.2.2.2.1,a.2.2.2.2.2.2.2.2.2.2.2.1,a.2.2.2.2.2.2.2.2.2.2.2.2.1,a.2.2.2.2.2.2.2.2.2.2.2.2.2.1,a.2.2.2.2.2.2.2.2.2.2.2.2.2.2.1,a.2.2.2.2.2.2.2.2.2.2.2.2.2.2.2.1,a.2.2.2.2.2.2.2.2.2.2.2.2.2.2.2.2.1,a.2.2.2.2.2.2.2.2.2.2.2.2.2.2.2.2.2.2.2.2.2.1,a.2.2.2.2.2.2.2.2.2.2.2.2.2.2.2.2.2.2.2.2.2.2.1,a.2.2.2.2.2.2.2.2.2.2.2.2.2.2.2.2.2.2.2.2.2.2.2)) (bj (cO N (m.1,(m.2.1,m.2.2.1)) (a.2.2.2.2.2.1,(a.2.2.2.2.2.2.1,a.2.2.2.2.2.2.2.1))) fun y=>bk (!y) (some (true,a.2.2.2.2.2.1,a.2.2.2.2.2.2.1,a.2.2.2.2.2.2.2.1,a.2.2.2.2.2.2.2.2.1,a.2.2.2.2.2.2.2.2.2.1,a.2.2.2.2.2.2.2.2.2.2.1,a.2.2.2.2.2.2.2.2.2.2.2.1,a.2.2.2.2.2.2.2.2.2.2.2.2.1,a.2.2.2.2.2.2.2.2.2.2.2.2.2.1,a.2.2.2.2.2.2.2.2.2.2.2.2.2.2.1,a.2.2.2.2.2.2.2.2.2.2.2.2.2.2.2.1,a.2.2.2.2.2.2.2.2.2.2.2.2.2.2.2.2.1,a.2.2.2.2.2.2.2.2.2.2.2.2.2.2.2.2.2.2.2.2.2.1,a.2.2.2.2.2.2.2.2.2.2.2.2.2.2.2.2.2.2.2.2.2.2.1,a.2.2.2.2.2.2.2.2.2.2.2.2.2.2.2.2.2.2.2.2.2.2.2)) (bj (cO N (n.1,(n.2.1,n.2.2.1)) (a.2.2.2.2.2.2.2.2.2.2.2.2.2.2.1,(a.2.2.2.2.2.2.2.2.2.2.2.2.2.2.2.1,a.2.2.2.2.2.2.2.2.2.2.2.2.2.2.2.2.1))) fun z=>bk (!z) (some (true,a.2.2.2.2.2.1,a.2.2.2.2.2.2.1,a.2.2.2.2.2.2.2.1,a.2.2.2.2.2.2.2.2.1,a.2.2.2.2.2.2.2.2.2.1,a.2.2.2.2.2.2.2.2.2.2.1,a.2.2.2.2.2.2.2.2.2.2.2.1,a.2.2.2.2.2.2.2.2.2.2.2.2.1,a.2.2.2.2.2.2.2.2.2.2.2.2.2.1,a.2.2.2.2.2.2.2.2.2.2.2.2.2.2.1,a.2.2.2.2.2.2.2.2.2.2.2.2.2.2.2.1,a.2.2.2.2.2.2.2.2.2.2.2.2.2.2.2.2.1,a.2.2.2.2.2.2.2.2.2.2.2.2.2.2.2.2.2.2.2.2.2.1,a.2.2.2.2.2.2.2.2.2.2.2.2.2.2.2.2.2.2.2.2.2.2.1,a.2.2.2.2.2.2.2.2.2.2.2.2.2.2.2.2.2.2.2.2.2.2.2)) (ck .i64 ((l.2.1.length:Int)+(l.2.2.1.length:Int)) (some (decide (((l.2.1.length:Int)+(l.2.2.1.length:Int))>0),a.2.2.2.2.2.1,a.2.2.2.2.2.2.1,a.2.2.2.2.2.2.2.1,a.2.2.2.2.2.2.2.2.1,a.2.2.2.2.2.2.2.2.2.1,a.2.2.2.2.2.2.2.2.2.2.1,a.2.2.2.2.2.2.2.2.2.2.2.1,a.2.2.2.2.2.2.2.2.2.2.2.2.1,a.2.2.2.2.2.2.2.2.2.2.2.2.2.1,a.2.2.2.2.2.2.2.2.2.2.2.2.2.2.1,a.2.2.2.2.2.2.2.2.2.2.2.2.2.2.2.1,a.2.2.2.2.2.2.2.2.2.2.2.2.2.2.2.2.1,a.2.2.2.2.2.2.2.2.2.2.2.2.2.2.2.2.2.2.2.2.2.1,a.2.2.2.2.2.2.2.2.2.2.2.2.2.2.2.2.2.2.2.2.2.2.1,a.2.2.2.2.2.2.2.2.2.2.2.2.2.2.2.2.2.2.2.2.2.2.2)))))))))))) fun c=>bk c.1 (some false) (bj (ck .i64 ((c.2.2.2.2.2.2.2.2.2.2.2.2.2.2.1.length:Int)+(c.2.2.2.2.2.2.2.2.2.2.2.2.2.2.2.length:Int)) (bk (((c.2.2.2.2.2.2.2.2.2.2.2.2.2.2.1.length:Int)+(c.2.2.2.2.2.2.2.2.2.2.2.2.2.2.2.length:Int))==0) (bj (cO N (c.2.2.2.2.2.2.2.2.2.2.1,(c.2.2.2.2.2.2.2.2.2.2.2.1,c.2.2.2.2.2.2.2.2.2.2.2.2.1)) (c.2.1,(c.2.2.1,c.2.2.2.1))) fun aa=>some ((!aa),c.2.1,c.2.2.1,c.2.2.2.1,c.2.2.2.2.1,c.2.2.2.2.2.1,c.2.2.2.2.2.2.1,c.2.2.2.2.2.2.2.1,c.2.2.2.2.2.2.2.2.1,c.2.2.2.2.2.2.2.2.2.1,c.2.2.2.2.2.2.2.2.2.2.1,c.2.2.2.2.2.2.2.2.2.2.2.1,c.2.2.2.2.2.2.2.2.2.2.2.2.1)) (some (false,c.2.1,c.2.2.1,c.2.2.2.1,c.2.2.2.2.1,c.2.2.2.2.2.1,c.2.2.2.2.2.2.1,c.2.2.2.2.2.2.2.1,c.2.2.2.2.2.2.2.2.1,c.2.2.2.2.2.2.2.2.2.1,c.2.2.2.2.2.2.2.2.2.2.1,c.2.2.2.2.2.2.2.2.2.2.2.1,c.2.2.2.2.2.2.2.2.2.2.2.2.1)))) fun d=>bk d.1 (some false) (bj (aT N (d.2.2.2.2.1,(d.2.2.2.2.2.1,d.2.2.2.2.2.2.1)) (d.2.2.2.2.2.2.2.1,(d.2.2.2.2.2.2.2.2.1,d.2.2.2.2.2.2.2.2.2.1))) fun o=>bj (aT N d.2.2.2.2.2.2.2.2.2.2 (d.2.2.2.2.2.2.2.1,(d.2.2.2.2.2.2.2.2.1,d.2.2.2.2.2.2.2.2.2.1))) fun p=>bk (o.2.2.2!=0) (bj (gG N) fun ab=>some ab) (bj (aT N (d.2.1,(d.2.2.1,d.2.2.2.1)) (o.1,(o.2.1,o.2.2.1))) fun q=>bj (bj (gG N) fun ac=>bk ac (bk (p.2.2.2==q.2.2.2) (bj (cO N (p.1,(p.2.1,p.2.2.1)) (q.1,(q.2.1,q.2.2.1))) fun ad=>some ad) (some false)) (some false)) fun ae=>some ae)))))
abbrev vB(N:Nat):bx:=⟨6,⟨[(0,dd tD),(1,dd tD),(2,dd tD)],[],[]⟩,[⟨[(0,dd .b)],[],[]⟩],fH N⟩
theorem vC(N:Nat):aF Tryz.prog (vB N):=xf N (tc (aSv N) (tc (aM3 N) (tc (xC N) (tc (tR N) (tc (sT N) (tc (MB N) tn)))))) [] [⟨26,true,⟨[(6,dd .b)],[],[]⟩⟩,⟨18,true,⟨[(3,.ptr (.O 0) 0),(4,.ptr (.O 1) 0),(5,.ptr (.O 2) 0),(7,.ptr (.O 3) 0),(186,dd .b)],[],[some (.box [dd tC,dd (.sl tB),dd (.sl tA)]),some (.box [dd tC,dd (.sl tB),dd (.sl tA)]),some (.box [dd tC,dd (.sl tB),dd (.sl tA)]),some (.box [dd tC,dd (.sl tB),dd (.sl tA)])]⟩⟩,⟨15,true,⟨[(3,.ptr (.O 0) 0),(4,.ptr (.O 1) 0),(5,.ptr (.O 2) 0),(7,.ptr (.O 3) 0),(13,.ptr (.O 4) 0),(172,dd .b)],[],[some (.box [dd tC,dd (.sl tB),dd (.sl tA)]),some (.box [dd tC,dd (.sl tB),dd (.sl tA)]),some (.box [dd tC,dd (.sl tB),dd (.sl tA)]),some (.box [dd tC,dd (.sl tB),dd (.sl tA)]),some (.box [dd tC,dd (.sl tB),dd (.sl tA)])]⟩⟩,⟨10,true,⟨[(6,dd .b)],[],[]⟩⟩,⟨9,true,⟨[(3,.ptr (.O 0) 0),(4,.ptr (.O 1) 0),(5,.ptr (.O 2) 0),(7,.ptr (.O 3) 0),(8,dd tC),(9,.ptr (.O 4) 0),(10,dd tC),(11,.slw (.O 5) tL 0),(12,dd tC),(13,.ptr (.O 6) 0),(14,dd tC),(70,dd .b)],[],[some (.box [dd tC,dd (.sl tB),dd (.sl tA)]),some (.box [dd tC,dd (.sl tB),dd (.sl tA)]),some (.box [dd tC,dd (.sl tB),dd (.sl tA)]),some (.box [dd tC,dd (.sl tB),dd (.sl tA)]),some (.box [dd tC,dd (.sl tB),dd (.sl tA)]),some (.row true tL []),some (.box [dd tC,dd (.sl tB),dd (.sl tA)])]⟩⟩,⟨2,true,⟨[(3,.ptr (.O 0) 0),(4,.ptr (.O 1) 0),(5,.ptr (.O 2) 0),(39,dd .b)],[],[some (.box [dd tC,dd (.sl tB),dd (.sl tA)]),some (.box [dd tC,dd (.sl tB),dd (.sl tA)]),some (.box [dd tC,dd (.sl tB),dd (.sl tA)])]⟩⟩] 0 Tryz.func6 rfl (by kernel_rfl) fun a=>by kernel_rfl
end Go.Proofs.Tryz

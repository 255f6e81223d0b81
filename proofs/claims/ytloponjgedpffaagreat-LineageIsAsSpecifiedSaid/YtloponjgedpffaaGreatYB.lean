/- Texts of this claim. -/
import Derived.Test.YtloponjgedpffaaGreatYA
import Derived.ProofKit
import Derived.Deep.Slices
import Derived.OpenShut
import Derived.Lib.LaidTab
set_option linter.all false
set_option linter.unusedSimpArgs false
set_option linter.unusedVariables false
namespace Go.Eng
open Go.RowKit
variable {R:Type}

theorem aCg [YL] {s:XS} {t:Ty} {v:XV} {K:List t.T->Option R} {r:R} (h:nC s (.sl t) v K=some r) :
  ∃ xs:List t.T,K xs=some r/\AV.content s.er.lk v.er=some (xs.map t.ds)/\AV.isS v.er=false:=by
 unfold nC at h
 split at h
 ·rename_i t' x
  split at h
  ·rename_i y hy
   obtain ⟨e,rfl⟩:=Ty.cst_ok hy
   subst e
   exact ⟨x,h,rfl,rfl⟩
  ·cases h
 ·rename_i t' xs
  split at h
  ·rename_i y hy
   obtain ⟨e,rfl⟩:=Ty.cst_ok hy
   cases e
   exact ⟨xs,h,rfl,rfl⟩
  ·cases h
 ·have h:K []=some r:=h
  exact ⟨[],h,rfl,rfl⟩
 ·have h:K []=some r:=h
  exact ⟨[],h,rfl,rfl⟩
 ·rename_i hd t' len
  split at h
  ·rename_i mt t2 xs hl
   split at h
   ·rename_i hb
    obtain rfl:=Ty.eq_of hb
    split at h
    ·rename_i y hy
     obtain ⟨e,rfl⟩:=Ty.cst_ok hy
     cases e
     replace h:=aUj h
     obtain ⟨rfl,h⟩:=h
     refine ⟨xs,h,?_,rfl⟩
     show (match s.er.lk hd with | some (.row _ k' es)=>if k'=t.n/\0 + xs.length <= es.length then some ((es.drop 0).take xs.length) else none | _=>none)=_
     rw [aS,hl]
     show (if t.n=t.n/\0 + xs.length <= (xs.map t.ds).length then some (((xs.map t.ds).drop 0).take xs.length) else none)=_
     rw [if_pos ⟨rfl,by rw [List.length_map];omega⟩,List.drop_zero,List.take_of_length_le (by rw [List.length_map];exact Nat.le_refl _)]
    ·cases h
   ·cases h
  ·cases h
 ·rename_i hd t' off len
  split at h
  ·rename_i mt t2 xs hl
   split at h
   ·rename_i hb
    obtain rfl:=Ty.eq_of hb
    split at h
    ·rename_i y hy
     obtain ⟨e,rfl⟩:=Ty.cst_ok hy
     cases e
     obtain ⟨h1,h⟩:=bN h
     refine ⟨_,h,?_,rfl⟩
     show (match s.er.lk hd with | some (.row _ k' es)=>if k'=t.n/\off + len <= es.length then some ((es.drop off).take len) else none | _=>none)=_
     rw [aS,hl]
     show (if t.n=t.n/\off + len <= (xs.map t.ds).length then some (((xs.map t.ds).drop off).take len) else none)=_
     rw [if_pos ⟨rfl,by rw [List.length_map];exact h1⟩,List.map_take,List.map_drop]
    ·cases h
   ·cases h
  ·cases h
 ·rename_i hd off len
  split at h
  ·rename_i mt n k x hl
   split at h
   ·rename_i y hy
    obtain ⟨e,rfl⟩:=Ty.cst_ok hy
    cases e
    obtain ⟨h1,h⟩:=bN h
    refine ⟨_,h,?_,rfl⟩
    show (match s.er.lk hd with | some (.row _ k' es)=>if k'=1/\off + len <= es.length then some ((es.drop off).take len) else none | _=>none)=_
    rw [aS,hl]
    show (if 1=1/\off + len <= (x.l.map (arD k)).length then some (((x.l.map (arD k)).drop off).take len) else none)=some ((aP3 x.l off len n).map (arD k))
    rw [aJg x.len,if_pos ⟨rfl,by rw [List.length_map,x.len];exact h1⟩,List.map_take,List.map_drop]
   ·cases h
  ·cases h
 ·cases h

mutual
def XV.hr:XV->List Hd
 | .sl h _ _ _=>[h]
 | .slw h _ _=>[h]
 | .asl h _ _=>[h]
 | .agg cs=>XV.hrL cs
 | .tup vs=>XV.hrL vs
 | .clo _ vs=>XV.hrL vs
 | _=>[]
def XV.hrL:List XV->List Hd
 | []=>[]
 | v :: vs=>v.hr ++ XV.hrL vs
end
theorem aHo:∀ (a c:List AV),AV.rowsL (a ++ c)=AV.rowsL a ++ AV.rowsL c
 | [],c=>rfl
 | x :: a,c=>by show AV.rows x ++ AV.rowsL (a ++ c)=AV.rows x ++ AV.rowsL a ++ AV.rowsL c;rw [aHo a c,List.append_assoc]
theorem aJs:∀ l:List DV,AV.rowsL (l.map .D)=[]
 | []=>rfl
 | x :: l=>aJs l
theorem aT5 {t:Ty} (x:t.T):AV.rows (aM t x)=[]:=by
 cases hl:jU t with
 | true=>cases t <;> first | rfl | (cases hl;done)
 | false=>rw [kB x hl];exact aJs _
mutual
theorem aCs [YL]:∀ v:XV,AV.rows v.er=v.hr
 | .d t x=>aT5 x
 | .agg cs=>aJq cs
 | .tup vs=>wV vs
 | .clo _ vs=>wV vs
 | .any=>rfl
 | .un=>rfl
 | .ab=>rfl
 | .sc=>rfl
 | .ptr _ _=>rfl
 | .ept _ _ _ _=>rfl
 | .apt _ _=>rfl
 | .pa _ _ _=>rfl
 | .epa _ _ _ _ _=>rfl
 | .rop _ _ _=>rfl
 | .fl _ _=>rfl
 | .fln _=>rfl
 | .nl _=>rfl
 | .sl _ _ _ _=>rfl
 | .slw _ _ _=>rfl
 | .asl _ _ _=>rfl
 | .mref _=>rfl
 | .itr _ _=>rfl
 | .c _=>rfl
 | .yld=>rfl
 | .gst _=>rfl
theorem wV [YL]:∀ vs:List XV,AV.rowsL (XV.erL vs)=XV.hrL vs
 | []=>rfl
 | v :: vs=>by show AV.rows v.er ++ AV.rowsL (XV.erL vs)=_;rw [aCs v,wV vs];rfl
theorem bGg [YL]:∀ v:XV,AV.rowsL v.fc=v.hr
 | .d t x=>aJs _
 | .agg cs=>aJq cs
 | .tup vs=>by show AV.rowsL (XV.erL vs) ++ []=_;rw [wV vs,List.append_nil];rfl
 | .clo _ vs=>by show AV.rowsL (XV.erL vs) ++ []=_;rw [wV vs,List.append_nil];rfl
 | .any=>rfl
 | .un=>rfl
 | .ab=>rfl
 | .sc=>rfl
 | .ptr _ _=>rfl
 | .ept _ _ _ _=>rfl
 | .apt _ _=>rfl
 | .pa _ _ _=>rfl
 | .epa _ _ _ _ _=>rfl
 | .rop _ _ _=>rfl
 | .fl _ _=>rfl
 | .fln _=>rfl
 | .nl _=>rfl
 | .sl _ _ _ _=>rfl
 | .slw _ _ _=>rfl
 | .asl _ _ _=>rfl
 | .mref _=>rfl
 | .itr _ _=>rfl
 | .c _=>rfl
 | .yld=>rfl
 | .gst _=>rfl
theorem aJq [YL]:∀ vs:List XV,AV.rowsL (XV.fcL vs)=XV.hrL vs
 | []=>rfl
 | v :: vs=>by show AV.rowsL (v.fc ++ XV.fcL vs)=_;rw [aHo,bGg v,aJq vs];rfl
end
def xfz (s:XS):List Hd->List Hd
 | []=>[]
 | h :: l=>match s.lk h with
  | some _=>h :: xfz s l
  | none=>xfz s l
theorem oO [YL] (s:XS):∀ l:List Hd,fzL s.er.lk l=xfz s l
 | []=>rfl
 | h :: l=>by
  show (h :: l).filter _=_
  rw [List.filter_cons,aS]
  unfold xfz
  cases s.lk h with
  | none=>exact oO s l
  | some b=>exact congrArg (h :: ·) (oO s l)
def flD:Ty->Bool
 | .sl _=>false
 | .o _=>false
 | .p a c=>flD a && flD c
 | .w a=>flD a
 | _=>true
theorem aOh:∀ (a c:List AV),AV.flatL (a ++ c)=(AV.flatL a && AV.flatL c)
 | [],c=>rfl
 | x :: a,c=>by show (AV.flat x && AV.flatL (a ++ c))=(AV.flat x && AV.flatL a && AV.flatL c);rw [aOh a c,Bool.and_assoc]
theorem tU:∀ (t:Ty) (x:t.T),AV.flatL ((t.ds x).map .D)=flD t
 | .u,_=>rfl
 | .b,_=>rfl
 | .i _,_=>rfl
 | .s,_=>rfl
 | .p a c,v=>by
  show AV.flatL ((a.ds v.1 ++ c.ds v.2).map .D)=(flD a && flD c)
  rw [List.map_append,aOh,tU a,tU c]
 | .w a,v=>tU a v
 | .ar n k,v=>by
  show AV.flatL ((v.l.map (DV.I k)).map .D)=true
  generalize v.l=l
  induction l with
  | nil=>rfl
  | cons x l ih=>exact ih
 | .sl t,v=>rfl
 | .o _,_=>rfl
theorem aTa {t:Ty} (x:t.T):AV.flat (aM t x)=flD t:=by
 cases hl:jU t with
 | true=>cases t <;> first | rfl | (cases hl;done)
 | false=>rw [kB x hl];exact tU t x

mutual
def flX:XV->Bool
 | .d t _=>flD t
 | .any=>true
 | .un=>true
 | .ab=>true
 | .sc=>true
 | .c _=>true
 | .gst _=>true
 | .yld=>true
 | .agg cs=>aNy cs
 | .tup cs=>aNy cs
 | _=>false
def aNy:List XV->Bool
 | []=>true
 | v :: vs=>flX v && aNy vs
end
mutual
theorem aVb [YL]:∀ v:XV,AV.flat v.er=flX v
 | .d t x=>aTa x
 | .agg cs=>aIz cs
 | .tup cs=>aIv cs
 | .clo _ _=>rfl
 | .any=>rfl
 | .un=>rfl
 | .ab=>rfl
 | .sc=>rfl
 | .ptr _ _=>rfl
 | .ept _ _ _ _=>rfl
 | .apt _ _=>rfl
 | .pa _ _ _=>rfl
 | .epa _ _ _ _ _=>rfl
 | .rop _ _ _=>rfl
 | .fl _ _=>rfl
 | .fln _=>rfl
 | .nl _=>rfl
 | .sl _ _ _ _=>rfl
 | .slw _ _ _=>rfl
 | .asl _ _ _=>rfl
 | .mref _=>rfl
 | .itr _ _=>rfl
 | .c _=>rfl
 | .yld=>rfl
 | .gst _=>rfl
theorem aIv [YL]:∀ vs:List XV,AV.flatL (XV.erL vs)=aNy vs
 | []=>rfl
 | v :: vs=>by show (AV.flat v.er && AV.flatL (XV.erL vs))=(flX v && aNy vs);rw [aVb v,aIv vs]
theorem bDy [YL]:∀ v:XV,AV.flatL v.fc=flX v
 | .d t x=>tU t x
 | .agg cs=>aIz cs
 | .tup cs=>by show (AV.flatL (XV.erL cs) && true)=aNy cs;rw [Bool.and_true,aIv]
 | .clo _ _=>rfl
 | .any=>rfl
 | .un=>rfl
 | .ab=>rfl
 | .sc=>rfl
 | .ptr _ _=>rfl
 | .ept _ _ _ _=>rfl
 | .apt _ _=>rfl
 | .pa _ _ _=>rfl
 | .epa _ _ _ _ _=>rfl
 | .rop _ _ _=>rfl
 | .fl _ _=>rfl
 | .fln _=>rfl
 | .nl _=>rfl
 | .sl _ _ _ _=>rfl
 | .slw _ _ _=>rfl
 | .asl _ _ _=>rfl
 | .mref _=>rfl
 | .itr _ _=>rfl
 | .c _=>rfl
 | .yld=>rfl
 | .gst _=>rfl
theorem aIz [YL]:∀ vs:List XV,AV.flatL (XV.fcL vs)=aNy vs
 | []=>rfl
 | v :: vs=>by show AV.flatL (v.fc ++ XV.fcL vs)=(flX v && aNy vs);rw [aOh,bDy v,aIz vs]
end
@[reducible] def RT:List XS->Type
 | []=>Unit
 | [m]=>rty m.tys
 | m :: m2 :: l=>rty m.tys ⊕ RT (m2 :: l)
structure Sig where
 fn:Nat
 ent:XS
 out:List XS
 F:fty ent.tys (RT out)
def aC4:(l:List XS)->RT l->XS
 | [],_=>⟨[],[],[]⟩
 | [m],v=>m.fill (ofR m.tys v)
 | m :: _ :: _,.inl v=>m.fill (ofR m.tys v)
 | _ :: m2 :: l,.inr v=>aC4 (m2 :: l) v
def XV.val:List (Nat × XV)->XV
 | [(_,v)]=>v
 | l=>.tup (l.map (·.2))
def aJ (P:Program) (g:Sig):Prop:=∀ [YL] (v:tup g.ent.tys) (r:RT g.out),apF g.ent.tys g.F v=some r->∀ nbs:List Blk,nbs.map some=erB (aC4 g.out r).own ->
 ACall P g.fn ((g.ent.fill v).env.map fun p=>p.2.er) (erB (g.ent.fill v).bs) (XV.val (aC4 g.out r).env).er (erB (aC4 g.out r).bs) nbs
def pD (P:Program):List Sig->Prop
 | []=>True
 | g :: l=>aJ P g/\pD P l
mutual
def bHg:XV->XV->Bool
 | .clo f ms,v=>match v with
  | .clo g vs=>Nat.beq f g && aW4 ms vs
  | _=>false
 | .ptr _ _,v=>match v with
  | .ptr _ _=>true
  | _=>false
 | .apt _ _,v=>match v with
  | .apt _ _=>true
  | _=>false
 | .mref _,v=>match v with
  | .mref _=>true
  | _=>false
 | .slw _ _ _,v=>match v with
  | .slw _ _ _=>true
  | .fln _=>true
  | _=>false
 | .nl _,v=>match v with
  | .fln _=>true
  | .nl _=>true
  | _=>false
 | .c x,v=>match v with
  | .c y=>cEq x y
  | _=>false
 | .agg ms,v=>match v with
  | .agg vs=>aW4 ms vs
  | _=>false
 | .sc,_=>true
 | .d _ _,v=>match v with
  | .ptr _ _=>false
  | .apt _ _=>false
  | .mref _=>false
  | .clo _ _=>false
  | .c _=>false
  | .sc=>false
  | _=>true
 | _,_=>false
def aW4:List XV->List XV->Bool
 | [],[]=>true
 | m :: ms,v :: vs=>bHg m v && aW4 ms vs
 | _,_=>false
end
def aIw:List (Nat × XV)->List XV
 | []=>[]
 | p :: r=>p.2 :: aIw r
def aV7:List Sig->Nat->List XV->Option Sig
 | [],_,_=>none
 | g :: l,f,vs=>match Nat.beq g.fn f && aW4 (aIw g.ent.env) vs with
  | true=>some g
  | false=>aV7 l f vs
theorem aJx {P:Program} {vs:List XV}:∀ {l:List Sig} {f:Nat} {g:Sig},pD P l->aV7 l f vs=some g->aJ P g/\g.fn=f
 | [],_,_,_,h=>by cases h
 | g0 :: l,f,g,ht,h=>by
  unfold aV7 at h
  split at h
  ·rename_i hb
   cases h
   rw [Bool.and_eq_true] at hb
   exact ⟨ht.1,Nat.eq_of_beq_eq_true hb.1⟩
  ·exact aJx ht.2 h
def sm? {α β γ:Type} (v:α ⊕ β) (f:α->Option γ) (g:β->Option γ):Option γ:=match v with
 | .inl a=>f a
 | .inr y=>g y
def bAo:(l:List XS)->RT l->(XS->Option R)->Option R
 | [],_,_=>none
 | [m],v,K=>K (m.fill (ofR m.tys v))
 | m :: m2 :: l,v,K=>sm? v (fun a=>K (m.fill (ofR m.tys a))) fun y=>bAo (m2 :: l) y K
theorem aJb:∀ {l:List XS} {v:RT l} {K:XS->Option R} {r:R},bAo l v K=some r->K (aC4 l v)=some r
 | [],_,_,_,h=>by cases h
 | [_],_,_,_,h=>h
 | _ :: _ :: _,.inl _,_,_,h=>h
 | _ :: m2 :: l,.inr _,_,_,h=>aJb (l:=m2 :: l) h
def aNx:List (Option XB)->Option (List XB)
 | []=>some []
 | some b :: r=>match aNx r with
  | some l=>some (b :: l)
  | none=>none
 | none :: _=>none
theorem aE7 [YL]:∀ {l:List (Option XB)} {bl:List XB},aNx l=some bl->(bl.map XB.er).map some=erB l
 | [],_,h=>by cases h;rfl
 | some b :: r,bl,h=>by
  unfold aNx at h
  split at h
  ·rename_i l hl
   cases h
   show some b.er :: (l.map XB.er).map some=some b.er :: erB r
   rw [aE7 hl]
  ·cases h
 | none :: _,_,h=>by cases h
def vN:List XV->Nat->XV
 | [],_=>.any
 | v :: _,0=>v
 | _ :: r,i + 1=>vN r i
def aBw:Nat->List (Nat × XV)->List XV->Bool
 | _,[],[]=>true
 | n,(k,_) :: r,_ :: vs=>Nat.beq k n && aBw (n + 1) r vs
 | _,_,_=>false
theorem uW {f:XV->AV}:∀ {l:List (Nat × XV)} {vs:List XV} {n:Nat} {ev:Nat->XV},aBw n l vs=true->(∀ i,i < vs.length->ev (n + i)=vN vs i)->l.map (fun p=>f (ev p.1))=vs.map f
 | [],[],_,_,_,_=>rfl
 | (k,_) :: r,v :: vs,n,ev,h,he=>by
  have h:(Nat.beq k n && aBw (n + 1) r vs)=true:=h
  rw [Bool.and_eq_true] at h
  have e0:ev k=v:=by rw [Nat.eq_of_beq_eq_true h.1];exact he 0 (Nat.succ_pos _)
  show f (ev k) :: r.map (fun p=>f (ev p.1))=f v :: vs.map f
  rw [e0,uW h.2 fun i hi=>by rw [show n + 1 + i=n + (i + 1) by omega,he (i + 1) (Nat.succ_lt_succ hi)];rfl]
 | [],_ :: _,_,_,h,_=>by cases h
 | _ :: _,[],_,_,h,_=>by cases h
theorem xZ [YL] (lk:aH) (φ:Hd->Option Hd):∀ vs:List XV,AV.convL lk φ (XV.erL vs)=vs.map fun v=>AV.conv lk φ v.er
 | []=>rfl
 | v :: vs=>by show AV.conv _ _ v.er :: AV.convL _ _ (XV.erL vs)=_;rw [xZ lk φ vs];rfl
theorem zM [YL]:∀ a c:List XV,XV.erL (a ++ c)=XV.erL a ++ XV.erL c
 | [],_=>rfl
 | x :: a,c=>by show x.er :: XV.erL (a ++ c)=_;rw [zM a c];rfl
def xfl (s:XS) (v:XV) (bl:List XB) (hs:List Hd):List Hd:=match flX v,bl with
 | true,[]=>[]
 | _,_=>xfz s hs
theorem bEb [YL] (s:XS) (v:XV) (bl:List XB) (vs:List XV):xfl s v bl (XV.hrL vs)=if AV.flat v.er=true/\bl.map XB.er=[] then [] else fzL s.er.lk (AV.rowsL (XV.erL vs)):=by
 unfold xfl
 rw [aVb,wV,oO]
 cases flX v with
 | false=>rw [if_neg (fun h=>by cases h.1)]
 | true=>cases bl with
  | nil=>rw [if_pos ⟨rfl,rfl⟩]
  | cons b bl=>rw [if_neg (fun h=>by cases h.2)]
def aVa (s:XS) (vs:List XV) (o:XS) (K:XV->List XB->List Hd->Option R):Option R:=match aNx o.own with
 | some bl=>K ((XV.val o.env).ren (cH [] s.own.length)) (bl.map (XB.ren (cH [] s.own.length))) (xfl s (XV.val o.env) bl (XV.hrL vs))
 | none=>none
def aXi (s:XS) (g:Sig) (vs:List XV) (K:XV->List XB->List Hd->Option R):Option R:=match g.ent.bs,g.ent.own,aBw 0 g.ent.env vs with
 | [],[],true=>rdK s (fun _=>none) g.ent (vN vs) [] [] fun v=>bd? (apF g.ent.tys g.F v) fun r=>bAo g.out r fun o=>match o.bs with
  | []=>aVa s vs o K
  | _=>none
 | _,_,_=>none
def aV9 (T:List Sig) (s:XS) (vs:List XV) (K:XV->List XB->List Hd->Option R):XV->Option R
 | .clo fn caps=>match aV7 T fn (vs ++ caps) with
  | some g=>aXi s g (vs ++ caps) K
  | none=>none
 | _=>none
theorem bDc {m:XS} (h:m.bs=[]) (v:tup m.tys):(m.fill v).bs=[]:=by
 show (sJ _ m.bs _).1=[]
 rw [h];rfl
theorem bCh [YL] (ψ:Hd->Hd) (l:List XB):(l.map (XB.ren ψ)).map XB.er=(l.map XB.er).map (Blk.ren ψ):=by
 rw [List.map_map,List.map_map]
 congr 1
 funext b
 exact aJ1 ψ b
theorem aYk [YL] {P:Program} {T:List Sig} (hT:pD P T) {s:XS} {vs:List XV} {K:XV->List XB->List Hd->Option R} {r:R} {vf:XV} (h:aV9 T s vs K vf=some r) {KP:AV->List Blk->List Hd->Prop} (hK:∀ v nbs fz,K v nbs fz=some r->KP v.er (nbs.map XB.er) fz) :
  ∃ fn caps rr nbs,vf.er=.clo fn caps/\ACall P fn (AV.convL s.er.lk (fun _=>none) (XV.erL vs ++ caps)) [] rr [] nbs /\
   KP (AV.ren (cH [] s.er.nx) rr) (nbs.map (Blk.ren (cH [] s.er.nx))) (if AV.flat rr=true/\nbs=[] then [] else fzL s.er.lk (AV.rowsL (XV.erL vs ++ caps))):=by
 unfold aV9 at h
 split at h
 case h_2=>cases h
 rename_i fn caps
 split at h
 case h_2=>cases h
 rename_i g hg
 obtain ⟨hs,hfn⟩:=aJx hT hg
 unfold aXi at h
 split at h
 case h_2=>cases h
 rename_i hb ho hk
 obtain ⟨v,h,e1,_,_⟩:=aPq (fun h h' b e _=>by cases e) h
 obtain ⟨rr,hr,h⟩:=aWn h
 have h:=aJb h
 split at h
 case h_2=>cases h
 rename_i hob
 unfold aVa at h
 split at h
 case h_2=>cases h
 rename_i bl hbl
 have hargs:(g.ent.fill v).env.map (fun p=>p.2.er)=AV.convL s.er.lk (fun _=>none) (XV.erL vs ++ XV.erL caps):=by
  have:=congrArg (fun l=>l.map (fun p:Nat × AV=>p.2)) e1
  simp only [List.map_map] at this
  rw [<- zM,xZ,<- uW (f:=fun v=>AV.conv s.er.lk (fun _=>none) v.er) hk (ev:=vN (vs ++ caps)) fun i _=>by rw [Nat.zero_add]]
  exact this
 have hcall:=hs v rr hr (bl.map XB.er) (aE7 hbl)
 rw [hargs,hfn,bDc hb,hob] at hcall
 refine ⟨fn,XV.erL caps,_,_,rfl,hcall,?_⟩
 have:=hK _ _ _ h
 rw [aKy,bCh] at this
 rw [bEb,zM] at this
 exact this
end Go.Eng

namespace Go.Eng
open Go.RowKit
variable {R:Type}

def w1 (s:XS) (x:Operand) (f:XV->Option R):Option R:=match noG x with
 | true=>f (s.ev x)
 | false=>none
theorem aI [YL] {s:XS} {x:Operand} {f:XV->Option R} {r:R} (h:w1 s x f=some r):f (s.ev x)=some r/\s.er.ev x=(s.ev x).er:=by
 unfold w1 at h
 split at h
 ·exact ⟨h,nP s ‹_›⟩
 ·cases h
def wL (s:XS):List Operand->(List XV->Option R)->Option R
 | [],f=>f []
 | x :: xs,f=>w1 s x fun v=>wL s xs fun vs=>f (v :: vs)
theorem aHl [YL] {s:XS} {r:R}:∀ {xs:List Operand} {f:List XV->Option R},wL s xs f=some r->∃ vs,f vs=some r/\xs.map s.er.ev=XV.erL vs
 | [],f,h=>⟨[],h,rfl⟩
 | x :: xs,f,h=>by
  obtain ⟨h,e1⟩:=aI h
  obtain ⟨vs,h,e2⟩:=aHl h
  exact ⟨s.ev x :: vs,h,by show s.er.ev x :: xs.map s.er.ev=_;rw [e1,e2];rfl⟩
def aYt (c:Bool) (K:XV->Option R):XV->XV->Option R
 | .d t x,v=>match v with
  | .d t' y=>match t'.cst t y with
   | some y=>K (.d t (cond c x y))
   | none=>if? c (K (.d t x)) (K (.d t' y))
  | v=>if? c (K (.d t x)) (K v)
 | u,v=>if? c (K u) (K v)
theorem aXz [YL] {c:Bool} {K:XV->Option R} {KP:AV->Prop} {r:R} {a b:XV} (h:aYt c K a b=some r) (hK:∀ v,K v=some r->KP v.er):KP (if c=true then a.er else b.er):=by
 have hif:∀ {a b:XV},if? c (K a) (K b)=some r->KP (if c=true then a.er else b.er):=fun h=>by
  rcases aIt h with ⟨rfl,h⟩ | ⟨rfl,h⟩
  ·exact hK _ h
  ·exact hK _ h
 unfold aYt at h
 split at h
 ·split at h
  ·split at h
   ·rename_i y hy
    obtain ⟨e,rfl⟩:=Ty.cst_ok hy
    subst e
    have:=hK _ h
    cases c <;> exact this
   ·exact hif h
  ·exact hif h
 ·exact hif h
def nth:List XV->Nat->Option XV
 | [],_=>none
 | v :: _,0=>some v
 | _ :: r,i + 1=>nth r i
theorem aWt [YL]:∀ {l:List XV} {i:Nat} {v:XV},nth l i=some v->(XV.erL l)[i]?=some v.er
 | [],_,_,h=>by cases h
 | v :: _,0,_,h=>by cases h;rfl
 | _ :: r,i + 1,v,h=>by
  have:=aWt (l:=r) (i:=i) h
  show (_ :: XV.erL r)[i + 1]?=_
  rw [List.getElem?_cons_succ];exact this
def aFh (kd:Nat):XV->XV->Option Bool
 | .d .b x,.d .b y=>match Nat.beq kd 0 with
  | true=>some (x == y)
  | false=>none
 | .d (.i k) x,.d (.i k') y=>if kd=1/\k=k' then some (x == y) else none
 | .d .s x,.d .s y=>match Nat.beq kd 2 with
  | true=>some (x == y)
  | false=>none
 | _,_=>none
def aOc:List Nat->Bool->Bool->Bool
 | [],p,_=>p
 | _ :: _,p,q=>p && q
def aNr:List Nat->List XV->List XV->Option Bool
 | [],[],[]=>some true
 | kd :: kds,x :: xs,y :: ys=>match aFh kd x y with
  | some p=>match aNr kds xs ys with
   | some q=>some (aOc kds p q)
   | none=>none
  | none=>none
 | _,_,_=>none
theorem aXd {xs ys:List XV} {q:Bool} (h:aNr [] xs ys=some q):q=true:=by
 cases xs <;> cases ys <;> first | (cases h;rfl;done) | (cases h;done)
theorem aM5 [YL]:∀ {kds:List Nat} {xs ys:List XV} {b:Bool},aNr kds xs ys=some b->gW kds (XV.fcL xs) (XV.fcL ys)=some b
 | [],xs,ys,b,h=>by
  cases xs <;> cases ys <;> first | (cases h;rfl;done) | (cases h;done)
 | kd :: kds,[],ys,b,h=>by cases h
 | kd :: kds,x :: xs,[],b,h=>by cases h
 | kd :: kds,x :: xs,y :: ys,b,h=>by
  unfold aNr at h
  split at h
  case h_2=>cases h
  rename_i p hp
  split at h
  case h_2=>cases h
  rename_i q hq
  cases h
  have e:aOc kds p q=(p && q):=by
   cases kds with
   | nil=>rw [aXd hq,Bool.and_true];rfl
   | cons _ _=>rfl
  have ih:=aM5 hq
  obtain ⟨d1,d2,e1,e2,e3⟩:∃ d1 d2,x.fc=[.D d1]/\y.fc=[.D d2]/\DV.same kd d1 d2=some p:=by
   unfold aFh at hp
   split at hp
   ·split at hp
    ·rename_i hb
     obtain rfl:=Nat.eq_of_beq_eq_true hb
     exact ⟨_,_,rfl,rfl,hp⟩
    ·cases hp
   ·exact ⟨_,_,rfl,rfl,hp⟩
   ·split at hp
    ·rename_i hb
     obtain rfl:=Nat.eq_of_beq_eq_true hb
     exact ⟨_,_,rfl,rfl,hp⟩
    ·cases hp
   ·cases hp
  show gW (kd :: kds) (x.fc ++ XV.fcL xs) (y.fc ++ XV.fcL ys)=_
  rw [e1,e2]
  show (match DV.same kd d1 d2,gW kds (XV.fcL xs) (XV.fcL ys) with | some p,some q=>some (p && q) | _,_=>none)=_
  rw [e3,ih,e]

def aI8 (off:Nat) (K:XV->Option R):XV->Option R
 | .ptr h o=>K (.ptr h (o + off))
 | .ept h t ix o=>match Nat.beq t.n 1 with
  | true=>match o,off with
   | 0,0=>K (.ept h t ix 0)
   | _,_=>none
  | false=>K (.ept h t ix (o + off))
 | .apt h ix=>K (.apt h (ix + off))
 | .rop t x o=>K (.rop t x (o + off))
 | _=>none
def ixA (o j k:Nat):Nat:=match o,k with
 | 0,1=>j
 | o,1=>o + j
 | o,k=>o + j * k
theorem wW (o j k:Nat):ixA o j k=o + j * k:=by
 unfold ixA
 split
 ·omega
 ·omega
 ·rfl
def aFt (k:Nat) (j:Int) (K:XV->Option R):XV->Option R
 | .d (.sl t) xs=>match Nat.beq t.n k with
  | true=>aT xs j fun x=>K (.rop t x 0)
  | false=>none
 | .fl t xs=>match Nat.beq t.n k with
  | true=>aT xs j fun x=>K (.rop t x 0)
  | false=>none
 | .slw h t len=>match Nat.beq t.n k with
  | true=>gd? (0 <= j) (gd? (j < (len:Int)) (K (.ept h t j.toNat 0)))
  | false=>none
 | .sl h t off len=>match Nat.beq t.n k with
  | true=>gd? (0 <= j) (gd? (j < (len:Int)) (K (.ept h t (off + j.toNat) 0)))
  | false=>none
 | .asl h off len=>match Nat.beq 1 k with
  | true=>gd? (0 <= j) (gd? (j < (len:Int)) (K (.apt h (ixA off j.toNat 1))))
  | false=>none
 | _=>none
def bD6 (m k:Nat) (j:Int) (K:XV->Option R):XV->Option R
 | .apt h ix=>gd? (0 <= j) (gd? (j < (m:Int)) (K (.apt h (ixA ix j.toNat k))))
 | .rop t x o=>gd? (0 <= j) (gd? (j < (m:Int)) (K (.rop t x (ixA o j.toNat k))))
 | .ptr h o=>match Nat.beq k 1 with
  | true=>gd? (0 <= j) (gd? (j < (m:Int)) (K (.pa h o j.toNat)))
  | false=>gd? (0 <= j) (gd? (j < (m:Int)) (K (.ptr h (ixA o j.toNat k))))
 | .ept h t ix o=>match Nat.beq t.n 1,Nat.beq k 1 with
  | false,true=>gd? (0 <= j) (gd? (j < (m:Int)) (K (.epa h t ix o j.toNat)))
  | _,_=>none
 | _=>none
def aPh (s:XS) (k:Nat) (lo hi mx:Option Operand) (K:XV->Option R):XV->Option R
 | .d (.sl t) xs=>match Nat.beq t.n k with
  | true=>match mx with
   | none=>sY s hi xs.length fun h=>sY s lo 0 fun l=>gd? (l <= h) (gd? (h <= xs.length) (K (.d (.sl t) ((xs.drop l).take (h - l)))))
   | some _=>match hi with
    | none=>none
    | some _=>sY s mx xs.length fun m=>sY s hi xs.length fun h=>sY s lo 0 fun l=>gd? (l <= h) (gd? (h <= xs.length) (gd? (h=m) (K (.fl t ((xs.drop l).take (h - l))))))
  | false=>none
 | .slw hd t len=>match Nat.beq t.n k,mx with
  | true,none=>match lo,hi with
   | none,none=>K (.slw hd t len)
   | none,hi=>sY s hi len fun h=>gd? (h <= len) (K (.sl hd t 0 h))
   | lo,hi=>sY s hi len fun h=>sY s lo 0 fun l=>gd? (l <= h) (gd? (h <= len) (K (.sl hd t l (h - l))))
  | _,_=>none
 | .sl hd t off len=>match Nat.beq t.n k,mx with
  | true,none=>sY s hi len fun h=>sY s lo 0 fun l=>gd? (l <= h) (gd? (h <= len) (K (.sl hd t (off + l) (h - l))))
  | _,_=>none
 | .asl hd off len=>match Nat.beq 1 k,mx with
  | true,none=>sY s hi len fun h=>sY s lo 0 fun l=>gd? (l <= h) (gd? (h <= len) (K (.asl hd (ixA off l 1) (h - l))))
  | _,_=>none
 | _=>none
theorem aIm [YL] {off:Nat} {K:XV->Option R} {r:R} {v:XV} (h:aI8 off K v=some r) {KP:AV->Prop} (hK:∀ v,K v=some r->KP v.er) :
  match v.er with
  | .ptr h o=>KP (.ptr h (o + off))
  | .eptr h k ix o=>KP (AV.eadd h k ix o off)
  | .rop ds=>KP (.rop (ds.drop off))
  | _=>False:=by
 unfold aI8 at h
 split at h
 ·exact hK _ h
 ·rename_i hd t ix o
  show KP (AV.eadd hd t.n ix o off)
  unfold AV.eadd
  split at h
  ·rename_i hb
   have hb:=Nat.eq_of_beq_eq_true hb
   split at h
   ·have:=hK _ h
    simp only [XV.er,hb] at this
    rw [if_pos hb];exact this
   ·cases h
  ·rename_i hb
   rw [if_neg (fun e=>by rw [e] at hb;cases hb)]
   exact hK _ h
 ·rename_i hd ix
  show KP (AV.eadd hd 1 ix 0 off)
  unfold AV.eadd
  rw [if_pos rfl]
  exact hK _ h
 ·rename_i t x o
  have:=hK _ h
  simp only [XV.er] at this |-
  rw [List.drop_drop];exact this
 ·cases h
theorem aAz [YL] {k:Nat} {j:Int} {K:XV->Option R} {r:R} {v:XV} (h:aFt k j K v=some r) {KP:AV->Prop} (hK:∀ v,K v=some r->KP v.er):0 <= j /\
  match v.er with
  | .D (.L es)=>∃ e,es[j.toNat]?=some e/\e.length=k/\KP (.rop e)
  | .fl es=>∃ e,es[j.toNat]?=some e/\e.length=k/\KP (.rop e)
  | .sl h k' off len=>k'=k/\j < len/\KP (.eptr h k (off + j.toNat) 0)
  | _=>False:=by
 unfold aFt at h
 split at h
 ·rename_i t xs
  split at h
  ·rename_i hb
   obtain ⟨x,h0,hx,h⟩:=aLd h
   refine ⟨h0,t.ds x,by rw [List.getElem?_map,hx];rfl,by rw [Ty.ds_len];exact Nat.eq_of_beq_eq_true hb,hK _ h⟩
  ·cases h
 ·rename_i t xs
  split at h
  ·rename_i hb
   obtain ⟨x,h0,hx,h⟩:=aLd h
   refine ⟨h0,t.ds x,by rw [List.getElem?_map,hx];rfl,by rw [Ty.ds_len];exact Nat.eq_of_beq_eq_true hb,hK _ h⟩
  ·cases h
 ·split at h
  ·rename_i hb
   obtain ⟨h0,h⟩:=bN h
   obtain ⟨h1,h⟩:=bN h
   have hb:=Nat.eq_of_beq_eq_true hb
   have:=hK _ h
   simp only [XV.er,hb] at this
   exact ⟨h0,hb,h1,by rw [Nat.zero_add];exact this⟩
  ·cases h
 ·split at h
  ·rename_i hb
   obtain ⟨h0,h⟩:=bN h
   obtain ⟨h1,h⟩:=bN h
   have hb:=Nat.eq_of_beq_eq_true hb
   have:=hK _ h
   simp only [XV.er,hb] at this
   exact ⟨h0,hb,h1,this⟩
  ·cases h
 ·split at h
  ·rename_i hb
   obtain ⟨h0,h⟩:=bN h
   obtain ⟨h1,h⟩:=bN h
   have hb:=Nat.eq_of_beq_eq_true hb
   subst hb
   have:=hK _ h
   rw [wW,Nat.mul_one] at this
   exact ⟨h0,rfl,h1,this⟩
  ·cases h
 ·cases h
theorem bA7 [YL] {m k:Nat} {j:Int} {K:XV->Option R} {r:R} {v:XV} (h:bD6 m k j K v=some r) {KP:AV->Prop} (hK:∀ v,K v=some r->KP v.er):0 <= j/\j < (m:Int) /\
  match v.er with
  | .ptr h o=>KP (.ptr h (o + j.toNat * k))
  | .eptr h k' ix o=>KP (AV.eadd h k' ix o (j.toNat * k))
  | .rop ds=>KP (.rop (ds.drop (j.toNat * k)))
  | _=>False:=by
 unfold bD6 at h
 split at h
 ·rename_i hd ix
  obtain ⟨h0,h⟩:=bN h
  obtain ⟨h1,h⟩:=bN h
  have:=hK _ h
  rw [wW] at this
  refine ⟨h0,h1,?_⟩
  show KP (AV.eadd hd 1 ix 0 (j.toNat * k))
  unfold AV.eadd
  rw [if_pos rfl]
  exact this
 ·rename_i t x o
  obtain ⟨h0,h⟩:=bN h
  obtain ⟨h1,h⟩:=bN h
  have:=hK _ h
  rw [wW] at this
  refine ⟨h0,h1,?_⟩
  simp only [XV.er] at this |-
  rw [List.drop_drop];exact this
 ·rename_i hd o
  split at h
  ·rename_i hb
   obtain ⟨h0,h⟩:=bN h
   obtain ⟨h1,h⟩:=bN h
   have hb:=Nat.eq_of_beq_eq_true hb
   subst hb
   have:=hK _ h
   refine ⟨h0,h1,?_⟩
   show KP (.ptr hd (o + j.toNat * 1))
   rw [Nat.mul_one];exact this
  ·obtain ⟨h0,h⟩:=bN h
   obtain ⟨h1,h⟩:=bN h
   have:=hK _ h
   rw [wW] at this
   exact ⟨h0,h1,this⟩
 ·rename_i hd t ix o
  split at h
  ·rename_i hb1 hb
   obtain ⟨h0,h⟩:=bN h
   obtain ⟨h1,h⟩:=bN h
   have hb:=Nat.eq_of_beq_eq_true hb
   subst hb
   have:=hK _ h
   refine ⟨h0,h1,?_⟩
   show KP (AV.eadd hd t.n ix o (j.toNat * 1))
   unfold AV.eadd
   rw [if_neg (fun e=>by rw [e] at hb1;cases hb1),Nat.mul_one]
   exact this
  ·cases h
 ·cases h
theorem aUi [YL] {s:XS} {k:Nat} {lo hi mx:Option Operand} {K:XV->Option R} {r:R} {v:XV} (h:aPh s k lo hi mx K v=some r) {KP:AV->Prop} (hK:∀ v,K v=some r->KP v.er):aI5 k s.er.ev lo hi mx KP v.er:=by
 unfold aPh at h
 split at h
 ·rename_i t xs
  split at h
  ·rename_i hb
   have hb:=Nat.eq_of_beq_eq_true hb
   have hu:Uni k (xs.map t.ds):=hb ▸ sV t xs
   have hl:(xs.map t.ds).length=xs.length:=List.length_map _
   split at h
   ·refine ⟨hu,?_⟩
    rw [hl]
    rw [show ∀ (Q:Nat->Prop),fW s.er.ev none xs.length Q=Q xs.length from fun _=>rfl]
    refine eP h fun hh h=>eP h fun l h=>?_
    obtain ⟨h1,h⟩:=bN h
    obtain ⟨h2,h⟩:=bN h
    refine ⟨h1,h2,fun e=>Bool.noConfusion e,?_⟩
    have:=hK _ h
    simp only [XV.er,aM,List.map_take,List.map_drop] at this
    exact this
   ·split at h
    ·cases h
    ·refine ⟨hu,?_⟩
     rw [hl]
     refine eP h fun m h=>eP h fun hh h=>eP h fun l h=>?_
     obtain ⟨h1,h⟩:=bN h
     obtain ⟨h2,h⟩:=bN h
     obtain ⟨h3,h⟩:=bN h
     refine ⟨h1,h2,fun _=>⟨rfl,h3⟩,?_⟩
     have:=hK _ h
     simp only [XV.er,List.map_take,List.map_drop] at this
     rw [if_pos (show (some _).isSome=true from rfl)];exact this
  ·cases h
 ·rename_i hd t len
  split at h
  ·rename_i hb
   have hb:=Nat.eq_of_beq_eq_true hb
   split at h
   ·refine ⟨hb,rfl,?_⟩
    show 0 <= len/\len <= len/\_
    refine ⟨Nat.zero_le _,Nat.le_refl _,?_⟩
    have:=hK _ h
    simp only [XV.er,hb] at this
    exact this
   ·refine ⟨hb,rfl,eP h fun hh h=>?_⟩
    obtain ⟨h2,h⟩:=bN h
    show 0 <= hh/\hh <= len/\_
    refine ⟨Nat.zero_le _,h2,?_⟩
    have:=hK _ h
    simp only [XV.er,hb] at this
    exact this
   ·refine ⟨hb,rfl,eP h fun hh h=>eP h fun l h=>?_⟩
    obtain ⟨h1,h⟩:=bN h
    obtain ⟨h2,h⟩:=bN h
    refine ⟨h1,h2,?_⟩
    have:=hK _ h
    simp only [XV.er,hb] at this
    rw [Nat.zero_add];exact this
  ·cases h
 ·rename_i hd t off len
  split at h
  ·rename_i hb
   have hb:=Nat.eq_of_beq_eq_true hb
   refine ⟨hb,rfl,eP h fun hh h=>eP h fun l h=>?_⟩
   obtain ⟨h1,h⟩:=bN h
   obtain ⟨h2,h⟩:=bN h
   refine ⟨h1,h2,?_⟩
   have:=hK _ h
   simp only [XV.er,hb] at this
   exact this
  ·cases h
 ·rename_i hd off len
  split at h
  ·rename_i hb
   have hb:=Nat.eq_of_beq_eq_true hb
   refine ⟨hb,rfl,eP h fun hh h=>eP h fun l h=>?_⟩
   obtain ⟨h1,h⟩:=bN h
   obtain ⟨h2,h⟩:=bN h
   refine ⟨h1,h2,?_⟩
   have:=hK _ h
   rw [wW,Nat.mul_one] at this
   subst hb
   exact this
  ·cases h
 ·cases h
end Go.Eng

namespace Go.Eng
open Go.RowKit
variable {R:Type}

def aN5 (xs:List Int):Str:=xs.map fun n=>UInt8.ofNat n.toNat
theorem aCz:∀ {xs:List Int},nX (xs.map (Ty.i .u8).ds)=some (aN5 xs)
 | []=>rfl
 | x :: xs=>by
  have ih:=aCz (xs:=xs)
  show (nX (xs.map (Ty.i .u8).ds)).map _=_
  rw [ih];rfl
def szL:List XV->Nat
 | []=>0
 | v :: r=>v.sz + szL r
theorem aEe [YL]:∀ l:List XV,(XV.fcL l).length=szL l
 | []=>rfl
 | v :: r=>by show (v.fc ++ XV.fcL r).length=v.sz + szL r;rw [List.length_append,aD1,aEe r]
theorem wG:∀ l:List DV,AV.data (l.map .D)=some l
 | []=>rfl
 | x :: l=>by show (AV.data (l.map .D)).map (x :: ·)=_;rw [wG l];rfl

def zl:Ty->List XV
 | .u=>[]
 | .b=>[.d .b false]
 | .i k=>[.d (.i k) 0]
 | .s=>[.d .s []]
 | .p a c=>zl a ++ zl c
 | .w a=>zl a
 | .ar n k=>[.d (.ar n k) (Arr.zero n)]
 | .sl t=>[.fln t]
 | .o t=>[.fln t]
def xJ:Ty->List AV
 | .u=>[]
 | .b=>[.D (.B false)]
 | .i k=>[.D (.I k 0)]
 | .s=>[.D (.S [])]
 | .p a c=>xJ a ++ xJ c
 | .w a=>xJ a
 | .ar n k=>List.replicate n (.D (.I k 0))
 | .sl _=>[.fl []]
 | .o _=>[.fl []]
theorem xY [YL]:∀ t:Ty,XV.fcL (zl t)=xJ t
 | .u=>rfl
 | .b=>rfl
 | .i _=>rfl
 | .s=>rfl
 | .p a c=>by show XV.fcL (zl a ++ zl c)=xJ a ++ xJ c;rw [lX,xY a,xY c]
 | .w a=>xY a
 | .ar n k=>by
  show (((List.replicate n (0:Int)).map (DV.I k)).map AV.D) ++ []=List.replicate n (.D (.I k 0))
  rw [List.append_nil,List.map_replicate,List.map_replicate]
 | .sl _=>rfl
 | .o _=>rfl
def zeq:List AV->List AV->Bool
 | [],[]=>true
 | .D (.B x) :: r,.D (.B y) :: r'=>(x == y) && zeq r r'
 | .D (.I k x) :: r,.D (.I k' y) :: r'=>decide (k=k') && ((x == y) && zeq r r')
 | .D (.S x) :: r,.D (.S y) :: r'=>(x == y) && zeq r r'
 | .fl [] :: r,.fl [] :: r'=>zeq r r'
 | .D (.L []) :: r,.D (.L []) :: r'=>zeq r r'
 | _,_=>false
theorem aBj:∀ {a c:List AV},zeq a c=true->a=c:=by
 intro a
 induction a with
 | nil=>intro c h;cases c <;> first | rfl | (cases h;done)
 | cons x r ih =>
  intro c h
  unfold zeq at h
  split at h
  ·cases ‹x :: r=[]›
  ·rename_i e;cases e
   rw [Bool.and_eq_true,beq_iff_eq] at h
   rw [h.1,ih h.2]
  ·rename_i e;cases e
   rw [Bool.and_eq_true,Bool.and_eq_true,beq_iff_eq,decide_eq_true_eq] at h
   rw [h.1,h.2.1,ih h.2.2]
  ·rename_i e;cases e
   rw [Bool.and_eq_true,beq_iff_eq] at h
   rw [h.1,ih h.2]
  ·rename_i e;cases e
   rw [ih h]
  ·rename_i e;cases e
   rw [ih h]
  ·cases h
def zX:List AV->Option (List XV)
 | []=>some []
 | .D (.B x) :: r=>(zX r).map (.d .b x :: ·)
 | .D (.I k x) :: r=>(zX r).map (.d (.i k) x :: ·)
 | .D (.S x) :: r=>(zX r).map (.d .s x :: ·)
 | .fl [] :: r=>(zX r).map (.fln .u :: ·)
 | .D (.C v) :: r=>(zX r).map (.c v :: ·)
 | _=>none
theorem bCn [YL]:∀ {a:List AV} {l:List XV},zX a=some l->XV.fcL l=a:=by
  intro a
  induction a with
  | nil=>intro l h;cases h;rfl
  | cons x r ih =>
    intro l h
    unfold zX at h
    split at h
    · rename_i e;cases e
    all_goals first
      | (rename_i e;cases e
         rw [Option.map_eq_some_iff] at h
         obtain ⟨l',h1,rfl⟩:=h
         exact congrArg (_ :: ·) (ih h1))
      | (cases h;done)
def aR5 (ty:Option Ty) (zs:List AV):Option (List XV):=match ty with
 | some t=>match zeq zs (xJ t) with
  | true=>some (zl t)
  | false=>none
 | none=>zX zs
theorem aM3 [YL] {ty:Option Ty} {zs:List AV} {l:List XV} (h:aR5 ty zs=some l):XV.fcL l=zs:=by
 unfold aR5 at h
 split at h
 ·split at h
  ·rename_i hz
   cases h
   rw [xY,aBj hz]
  ·cases h
 ·exact bCn h

def elT:Option Ty->Option Ty
 | some (.sl t)=>some t
 | _=>none
def xbs (s:XS) (t:Ty):List XV->(List t.T->Option R)->Option R
 | [],K=>K []
 | v :: vs,K=>match rG v with
  | some cs=>pkC s t cs fun x l=>match l with
   | []=>xbs s t vs fun ys=>K (x :: ys)
   | _=>none
  | none=>none
theorem aOz [YL] {s:XS} {t:Ty} {k:Nat} (hk:t.n=k) {r:R}:∀ {ps:List Operand} {vs:List XV} {K:List t.T->Option R},ps.map s.er.ev=XV.erL vs->xbs s t vs K=some r->∃ xs,K xs=some r/\pT s.er.lk s.er.ev k ps=some (xs.map t.ds)/\dT s.er.ev ps=XV.hrL vs
 | [],[],K,_,h=>⟨[],h,rfl,rfl⟩
 | p :: ps,v :: vs,K,e,h=>by
  have e1:s.er.ev p=v.er:=List.head_eq_of_cons_eq e
  have e2:ps.map s.er.ev=XV.erL vs:=List.tail_eq_of_cons_eq e
  unfold xbs at h
  split at h
  ·rename_i cs hcs
   obtain ⟨x,l1,l2,rfl,h,ec⟩:=aWb (φ:=fun _=>none) (fun _ _ _=>rfl) h
   split at h
   ·obtain ⟨xs,h,h1,h2⟩:=aOz hk e2 h
    refine ⟨x :: xs,h,?_,?_⟩
    ·unfold pT
     rw [e1,oC hcs,h1]
     show (match AV.data (AV.convL s.er.lk (fun _=>none) (XV.fcL (l1 ++ []))),some (xs.map t.ds) with | some e,some es=>if e.length=k then some (e :: es) else none | _,_=>none)=_
     rw [List.append_nil,ec,wG]
     show (if (t.ds x).length=k then _ else _)=_
     rw [if_pos (by rw [Ty.ds_len];exact hk)];rfl
    ·show AV.rows (s.er.ev p) ++ dT s.er.ev ps=_
     rw [e1,aCs,h2];rfl
   ·cases h
  ·cases h
 | [],_ :: _,_,e,_=>by cases e
 | _ :: _,[],_,e,_=>by cases e
def aOk (s:XS):List (Nat × Nat × Operand)->List XV->(List XV->Option R)->Option R
 | [],l,K=>K l
 | (o,sz,x) :: r,l,K=>w1 s x fun v=>match rG v with
  | some cs=>match Nat.beq (szL cs) sz,aOr l o cs sz with
   | true,some l'=>aOk s r l' K
   | _,_=>none
  | none=>none
theorem aGm (o:Nat) (xs:List AV):∀ (r:List (Nat × List AV)) (cs:List AV),uC cs (r ++ [(o,xs)])=(uC cs r).take o ++ xs ++ (uC cs r).drop (o + xs.length)
 | [],cs=>rfl
 | (o',ys) :: r,cs=>by show uC _ (r ++ [(o,xs)])=_;rw [aGm o xs r];rfl
theorem aHu [YL] {s:XS} {zs:List AV} {K:List XV->Option R} {r:R} {KP:AV->Prop} (hK:∀ l,K l=some r->KP (.agg (XV.fcL l))):∀ {ps:List (Nat × Nat × Operand)} {l:List XV} {acc:List (Nat × List AV)},XV.fcL l=uC zs acc.reverse->(XV.fcL l).length=zs.length->aOk s ps l K=some r->aBi s.er.ev zs ps acc KP
 | [],l,acc,e,_,h=>by show KP (.agg (uC zs acc.reverse));rw [<- e];exact hK _ h
 | (o,sz,x) :: ps,l,acc,e,el,h=>by
  obtain ⟨h,e1⟩:=aI h
  split at h
  ·rename_i cs hcs
   split at h
   ·rename_i l' hb hu
    obtain ⟨u1,u2⟩:=yE hu
    have hsz:(XV.fcL cs).length=sz:=by rw [aEe];exact Nat.eq_of_beq_eq_true hb
    refine ⟨XV.fcL cs,by rw [e1];exact oC hcs,hsz,by rw [<- el];exact u1,?_⟩
    refine aHu hK (l:=l') ?_ ?_ h
    ·rw [u2,e,List.reverse_cons,aGm,hsz]
    ·rw [u2,List.length_append,List.length_append,List.length_take,List.length_drop,hsz];omega
   ·cases h
  ·cases h
def unA:XV->XV
 | .agg [.d (.ar n k) x]=>.d (.ar n k) x
 | v=>v
theorem aJr [YL] (v:XV):(unA v).er=v.er:=by
 unfold unA
 split
 ·rename_i n k x
  show AV.agg (((Ty.ar n k).ds x).map .D)=.agg (((Ty.ar n k).ds x).map .D ++ [])
  rw [List.append_nil]
 ·rfl
def Ty.z:(t:Ty)->t.T
 | .u=>()
 | .b=>false
 | .i _=>0
 | .s=>[]
 | .p a c=>(a.z,c.z)
 | .w a=>a.z
 | .ar n _=>Arr.zero n
 | .sl _=>[]
 | .o _=>[]
def bEl (t:Ty) (k bytes:Nat) (zs:List DV) (K:XV->XB->Option R) (m:Nat):XV->XV->Option R
 | .d (.i _) l,.d (.i _) c=>match Nat.beq t.n k,zeq (zs.map .D) ((t.ds t.z).map .D) with
  | true,true=>gd? (0 <= l) (gd? (l <= c) (gd? (c <= 9223372036854775807) (gd? ((bytes:Int) * c <= 281474976710656) (K (.slw (.O m) t l.toNat) (.row true t (List.replicate l.toNat t.z))))))
  | _,_=>none
 | _,_=>none
theorem zT:∀ {a b:List DV},a.map AV.D=b.map AV.D->a=b
 | [],[],_=>rfl
 | [],_ :: _,h=>by cases h
 | _ :: _,[],h=>by cases h
 | x :: a,y :: b,h=>by
  rw [List.map_cons,List.map_cons] at h
  injection h with h1 h2
  injection h1 with h1
  rw [h1,zT h2]
theorem bBe [YL] {t:Ty} {k bytes:Nat} {zs:List DV} {K:XV->XB->Option R} {r:R} {m:Nat} {vx vy:XV} (h:bEl t k bytes zs K m vx vy=some r) :
  ∃ (k1 k2:IntKind) (l c:Int) (v:XV) (b:XB),vx.er=.D (.I k1 l)/\vy.er=.D (.I k2 c)/\0 <= l/\l <= c/\c <= 9223372036854775807/\(bytes:Int) * c <= 281474976710656/\K v b=some r/\v.er=.sl (.O m) k 0 l.toNat/\b.er=.row true k (List.replicate l.toNat zs):=by
 unfold bEl at h
 split at h
 ·rename_i k1 l k2 c
  split at h
  ·rename_i hb hz
   have hb:=Nat.eq_of_beq_eq_true hb
   have hz:=zT (aBj hz)
   obtain ⟨h1,h⟩:=bN h
   obtain ⟨h2,h⟩:=bN h
   obtain ⟨h3,h⟩:=bN h
   obtain ⟨h4,h⟩:=bN h
   refine ⟨k1,k2,l,c,_,_,rfl,rfl,h1,h2,h3,h4,h,?_,?_⟩
   ·show AV.sl (.O m) t.n 0 _=_
    rw [hb]
   ·show Blk.row true t.n ((List.replicate _ t.z).map t.ds)=_
    rw [hb,List.map_replicate,<- hz]
  ·cases h
 ·cases h
def bFy (m k:Nat) (ag:Option Nat) (j:Int) (K:XV->Option R):XV->Option R
 | .d (.ar n k') y=>match ag with
  | none=>match Nat.beq n m,Nat.beq k 1 with
   | true,true=>aT y.l j fun c=>K (.d (.i k') c)
   | _,_=>none
  | some q=>match Nat.beq (m * k) n,Nat.beq q k with
   | true,true=>gd? (0 <= j) (gd? (j < (m:Int)) (K (.d (.ar q k') (y.part (ixA 0 j.toNat k) q))))
   | _,_=>none
 | _=>none
theorem bAl [YL] {m k:Nat} {ag:Option Nat} {j:Int} {K:XV->Option R} {r:R} {v:XV} (h:bFy m k ag j K v=some r) {KP:AV->Prop} (hK:∀ v,K v=some r->KP v.er):∃ cs,v.er=.agg cs/\0 <= j/\j < (m:Int) /\
  match (generalizing:=false) ag with
  | none=>∃ a,cs[j.toNat * k]?=some a/\KP a
  | some q=>j.toNat * k + q <= cs.length/\KP (.agg ((cs.drop (j.toNat * k)).take q)):=by
 unfold bFy at h
 split at h
 ·rename_i n k' y
  cases ag with
  | none =>
   replace h:(match Nat.beq n m,Nat.beq k 1 with
    | true,true=>aT y.l j fun c=>K (.d (.i k') c)
    | _,_=>none)=some r:=h
   split at h
   ·rename_i hb hb2
    have hb:=Nat.eq_of_beq_eq_true hb
    have hb2:=Nat.eq_of_beq_eq_true hb2
    obtain ⟨c,h0,hc,h⟩:=aLd h
    have hlt:=(List.getElem?_eq_some_iff.1 hc).1
    rw [y.len] at hlt
    refine ⟨(y.l.map (DV.I k')).map .D,rfl,h0,by omega,.D (.I k' c),?_,hK (.d (.i k') c) h⟩
    rw [hb2,Nat.mul_one,List.getElem?_map,List.getElem?_map,hc];rfl
   ·cases h
  | some q =>
   replace h:(match Nat.beq (m * k) n,Nat.beq q k with
    | true,true=>gd? (0 <= j) (gd? (j < (m:Int)) (K (.d (.ar q k') (y.part (ixA 0 j.toNat k) q))))
    | _,_=>none)=some r:=h
   split at h
   ·rename_i hb hb2
    have hb:=Nat.eq_of_beq_eq_true hb
    obtain rfl:=Nat.eq_of_beq_eq_true hb2
    obtain ⟨h0,h⟩:=bN h
    obtain ⟨h1,h⟩:=bN h
    have hle:j.toNat * q + q <= n:=by
     rw [<- hb,<- Nat.succ_mul]
     exact Nat.mul_le_mul_right _ (by omega)
    have:=hK _ h
    rw [wW,Nat.zero_add] at this
    refine ⟨(y.l.map (DV.I k')).map .D,rfl,h0,h1,by rw [List.length_map,List.length_map,y.len];exact hle,?_⟩
    have e:(XV.d (.ar q k') (y.part (j.toNat * q) q)).er=.agg ((((y.l.map (DV.I k')).map AV.D).drop (j.toNat * q)).take q):=by
     show AV.agg (((y.part (j.toNat * q) q).l.map (DV.I k')).map .D)=_
     rw [Arr.l_part hle,List.map_take,List.map_drop,List.map_take,List.map_drop]
    rw [e] at this
    exact this
   ·cases h
 ·cases h
def bGk (s:XS) (m:Nat) (lo hi:Option Operand) (K:XV->Option R):XV->Option R
 | .apt h ix=>match s.lk h with
  | some (.arr _ n _ _)=>match Nat.ble (ix + m) n with
   | true=>sY s hi m fun hh=>sY s lo 0 fun l=>gd? (l <= hh) (gd? (hh <= m) (K (.asl h (ixA ix l 1) (hh - l))))
   | false=>none
  | _=>none
 | _=>none
def zK (k:IntKind):Nat->List AV->Bool
 | 0,[]=>true
 | n + 1,.D (.I k' 0) :: l=>decide (k'=k) && zK k n l
 | _,_=>false
theorem bCk {k:IntKind}:∀ {n:Nat} {l:List AV},zK k n l=true->l=(List.replicate n (DV.I k 0)).map .D
 | 0,[],_=>rfl
 | n + 1,.D (.I k' 0) :: l,h=>by
  have h:(decide (k'=k) && zK k n l)=true:=h
  rw [Bool.and_eq_true,decide_eq_true_eq] at h
  rw [h.1,bCk h.2];rfl
def bCq (zs:List AV) (K:XV->XB->Option R) (m:Nat):Ty->Option R
 | .ar n k=>match zK k n zs with
  | true=>K (.apt (.O m) 0) (.arr true n k (Arr.zero n))
  | false=>none
 | _=>none
def bCc (K:XV->XB->Option R) (m:Nat):XV->Option R
 | .d (.ar n k) y=>K (.apt (.O m) 0) (.arr true n k y)
 | _=>none
def bC8 (k:IntKind) (m:Nat) (K:Bool->Option R):XV->XV->Option R
 | .d (.ar n k1) a,.d (.ar n2 k2) b=>match Nat.beq n m,Nat.beq n2 m,decide (k1=k),decide (k2=k) with
  | true,true,true,true=>K (a.l == b.l)
  | _,_,_,_=>none
 | _,_=>none
def aSa (K:XV->Option R):XV->Option R
 | .ptr h o=>K (.ptr h o)
 | .ept h t ix o=>K (.ept h t ix o)
 | .apt h ix=>K (.apt h ix)
 | .rop t x o=>K (.rop t x o)
 | _=>none
theorem uP {k:IntKind}:∀ (l:List Int),rX k ((l.map (DV.I k)).map .D)=some l
 | []=>rfl
 | x :: l=>by
  show (if k=k then (rX k ((l.map (DV.I k)).map .D)).map (x :: ·) else none)=_
  rw [if_pos rfl,uP l];rfl
theorem bBw [YL] {k:IntKind} {m:Nat} {K:Bool->Option R} {r:R} {a c:XV} (h:bC8 k m K a c=some r):∃ xs ys p q,a.er=.agg xs/\c.er=.agg ys/\rX k xs=some p/\rX k ys=some q/\p.length=m/\q.length=m/\K (p == q)=some r:=by
 unfold bC8 at h
 split at h
 ·rename_i n k1 a n2 k2 b
  split at h
  ·rename_i h1 h2 h3 h4
   have h1:=Nat.eq_of_beq_eq_true h1
   have h2:=Nat.eq_of_beq_eq_true h2
   have h3:=of_decide_eq_true h3
   have h4:=of_decide_eq_true h4
   subst h1 h2 h3 h4
   exact ⟨(a.l.map (DV.I _)).map .D,(b.l.map (DV.I _)).map .D,a.l,b.l,rfl,rfl,uP _,uP _,a.len,b.len,h⟩
  ·cases h
 ·cases h
theorem aNq [YL] {K:XV->Option R} {r:R} {v:XV} (h:aSa K v=some r) {KP:AV->Prop} (hK:∀ v,K v=some r->KP v.er):match v.er with
  | .ptr h o=>KP (.ptr h o)
  | .eptr h k ix o=>KP (.eptr h k ix o)
  | .rop ds=>KP (.rop ds)
  | _=>False:=by
 unfold aSa at h
 split at h
 ·exact hK _ h
 ·exact hK _ h
 ·exact hK _ h
 ·exact hK _ h
 ·cases h
theorem aKw:∀ l:List DV,AV.data (l.map .D)=some l
 | []=>rfl
 | x :: l=>by
  show (AV.data (l.map AV.D)).map (x :: ·)=_
  rw [aKw l];rfl
def bFs:List Sh->Bool->Bool->Bool
 | [],p,_=>p
 | _ :: _,p,q=>p && q
def bD3 (k:IntKind) (m:Nat):XV->XV->Option Bool
 | .d (.ar n k1) a,.d (.ar n2 k2) e=>match Nat.beq n m,Nat.beq n2 m,decide (k1=k),decide (k2=k) with
  | true,true,true,true=>some (a.l == e.l)
  | _,_,_,_=>none
 | _,_=>none
theorem bA9 [YL] {k:IntKind} {m:Nat} {x y:XV} {b:Bool} (h:bD3 k m x y=some b):∃ p q:List Int,x.fc=(p.map (DV.I k)).map .D/\y.fc=(q.map (DV.I k)).map .D/\p.length=m/\q.length=m/\b=(p == q):=by
 unfold bD3 at h
 split at h
 ·rename_i n k1 a n2 k2 e
  split at h
  ·rename_i h1 h2 h3 h4
   obtain rfl:=Nat.eq_of_beq_eq_true h1
   obtain rfl:=Nat.eq_of_beq_eq_true h2
   obtain rfl:=of_decide_eq_true h3
   obtain rfl:=of_decide_eq_true h4
   cases h
   exact ⟨a.l,e.l,rfl,rfl,a.len,e.len,rfl⟩
  ·cases h
 ·cases h
def aNz:List Sh->List XV->List XV->Option Bool
 | [],[],[]=>some true
 | .s kd :: r,x :: xs,y :: ys=>match aFh kd x y,aNz r xs ys with
  | some p,some q=>some (bFs r p q)
  | _,_=>none
 | .a k m :: r,x :: xs,y :: ys=>match bD3 k m x y,aNz r xs ys with
  | some p,some q=>some (bFs r p q)
  | _,_=>none
 | _,_,_=>none
theorem aXx {xs ys:List XV} {q:Bool} (h:aNz [] xs ys=some q):q=true:=by
 cases xs <;> cases ys <;> first | (cases h;rfl;done) | (cases h;done)
theorem aRn {r:List Sh} {xs ys:List XV} {p q:Bool} (h:aNz r xs ys=some q):bFs r p q=(p && q):=by
 cases r with
 | nil=>rw [aXx h,Bool.and_true];rfl
 | cons _ _=>rfl
theorem aUg [YL] {kd:Nat} {x y:XV} {p:Bool} (hp:aFh kd x y=some p):∃ d1 d2,x.fc=[.D d1]/\y.fc=[.D d2]/\DV.same kd d1 d2=some p:=by
 unfold aFh at hp
 split at hp
 ·split at hp
  ·rename_i hb
   obtain rfl:=Nat.eq_of_beq_eq_true hb
   exact ⟨_,_,rfl,rfl,hp⟩
  ·cases hp
 ·exact ⟨_,_,rfl,rfl,hp⟩
 ·split at hp
  ·rename_i hb
   obtain rfl:=Nat.eq_of_beq_eq_true hb
   exact ⟨_,_,rfl,rfl,hp⟩
  ·cases hp
 ·cases hp
theorem aIq [YL]:∀ {sh:List Sh} {xs ys:List XV} {b:Bool},aNz sh xs ys=some b->aC5 sh (XV.fcL xs) (XV.fcL ys)=some b
 | [],xs,ys,b,h=>by
  cases xs <;> cases ys <;> first | (cases h;rfl;done) | (cases h;done)
 | .s kd :: r,x :: xs,y :: ys,b,h=>by
  unfold aNz at h
  split at h
  ·rename_i p q h1 h2
   cases h
   obtain ⟨d1,d2,e1,e2,e3⟩:=aUg h1
   have ih:=aIq h2
   show aC5 (.s kd :: r) (x.fc ++ XV.fcL xs) (y.fc ++ XV.fcL ys)=_
   rw [e1,e2,aRn h2]
   show (match DV.same kd d1 d2,aC5 r (XV.fcL xs) (XV.fcL ys) with | some p,some q=>some (p && q) | _,_=>none)=_
   rw [e3,ih]
  ·cases h
 | .a k m :: r,x :: xs,y :: ys,b,h=>by
  unfold aNz at h
  split at h
  ·rename_i p q h1 h2
   cases h
   obtain ⟨p1,q1,e1,e2,l1,l2,rfl⟩:=bA9 h1
   have ih:=aIq h2
   show aC5 (.a k m :: r) (x.fc ++ XV.fcL xs) (y.fc ++ XV.fcL ys)=_
   rw [e1,e2,aRn h2]
   have hl:∀ (p:List Int),p.length=m->((p.map (DV.I k)).map AV.D).length=m:=fun p e=>by rw [List.length_map,List.length_map,e]
   have tk:∀ {a c:List AV},a.length=m->(a ++ c).take m=a:=fun e=>by rw [<- e,List.take_left]
   have dp:∀ {a c:List AV},a.length=m->(a ++ c).drop m=c:=fun e=>by rw [<- e,List.drop_left]
   unfold aC5
   rw [tk (hl _ l1),tk (hl _ l2),dp (hl _ l1),dp (hl _ l2),uP,uP,ih]
   simp only
   rw [if_pos ⟨l1,l2⟩]
  ·cases h
 | .s _ :: _,[],ys,b,h=>by cases h
 | .s _ :: _,_ :: _,[],b,h=>by cases h
 | .a _ _ :: _,[],ys,b,h=>by cases h
 | .a _ _ :: _,_ :: _,[],b,h=>by cases h

section
variable {α β:Type} [DecidableEq α]
def bL:List (α × β)->α->Option β
 | [],_=>none
 | e :: es,y=>if e.1=y then some e.2 else bL es y
def bY:List (α × β)->α->β->List (α × β)
 | [],y,v=>[(y,v)]
 | e :: es,y,v=>if e.1=y then (y,v) :: es else e :: bY es y v
def aKc:List (α × β)->α->List (α × β)
 | [],_=>[]
 | e :: es,y=>if e.1=y then es else e :: aKc es y
end
def bBa (t:Ty) (x:t.T):XV:=match t,x with
 | .o t,x=>.d (.sl t) x
 | t,x=>aG4 t x
theorem yZ [YL] (t:Ty) (x:t.T):(bBa t x).er=aM t x:=by
 cases t <;> first | rfl | exact uS (.p _ _) _ | exact uS (.w _) _
theorem aRy (t:Ty) (x:t.T):(gT false t x).av=aM t x:=by cases t <;> rfl
theorem aLg:∀ {a b c d:List AV} {p q:Bool},vP a b=some p->vP c d=some q->vP (a ++ c) (b ++ d)=some (p && q)
 | a,b,c,d,p,q,h,h2=>by
  unfold vP at h
  split at h
  ·cases h;simpa using h2
  ·rename_i k n xs k' n' ys
   rw [Option.ite_none_right_eq_some] at h
   obtain ⟨e,h⟩:=h
   split at h
   ·rename_i b0 hb
    cases h
    show (if k=k' then match vP (xs ++ c) (ys ++ d) with | some b=>some (n == n' && b) | none=>none else none)=_
    rw [if_pos e,aLg hb h2,Bool.and_assoc]
   ·cases h
  ·cases h
theorem aR0 (k:IntKind):∀ (l l':List Int),l.length=l'.length->vP ((l.map (DV.I k)).map .D) ((l'.map (DV.I k)).map .D)=some (decide (l'=l))
 | [],[],_=>rfl
 | x :: l,y :: l',h=>by
  show (if k=k then match vP ((l.map (DV.I k)).map .D) ((l'.map (DV.I k)).map .D) with | some b=>some (x == y && b) | none=>none else none)=_
  rw [if_pos rfl,aR0 k l l' (by simpa using h)]
  simp only [Option.some.injEq]
  rw [Bool.eq_iff_iff,Bool.and_eq_true,beq_iff_eq,decide_eq_true_eq,decide_eq_true_eq]
  exact ⟨fun ⟨a,b⟩=>by rw [a,b],fun e=>by cases e;exact ⟨rfl,rfl⟩⟩
 | [],_ :: _,h=>by cases h
 | _ :: _,[],h=>by cases h
theorem aKb:∀ {t:Ty},vT t=true->∀ x y:t.T,vP ((t.ds x).map .D) ((t.ds y).map .D)=some (decide (y=x))
 | .i k,_,x,y=>by
  show (if k=k then some (((x:Int) == y) && true) else none)=_
  rw [if_pos rfl,Bool.and_true]
  congr 1
  rw [Bool.eq_iff_iff,beq_iff_eq,decide_eq_true_eq]
  exact ⟨Eq.symm,Eq.symm⟩
 | .p a b,h,x,y=>by
  have h:(vT a && vT b)=true:=h
  rw [Bool.and_eq_true] at h
  show vP ((a.ds x.1 ++ b.ds x.2).map .D) ((a.ds y.1 ++ b.ds y.2).map .D)=_
  rw [List.map_append,List.map_append,aLg (aKb h.1 x.1 y.1) (aKb h.2 x.2 y.2)]
  congr 1
  rw [Bool.eq_iff_iff,Bool.and_eq_true,decide_eq_true_eq,decide_eq_true_eq,decide_eq_true_eq]
  exact ⟨fun ⟨a,b⟩=>Prod.ext a b,fun e=>by rw [e];exact ⟨rfl,rfl⟩⟩
 | .ar n k,_,x,y=>by
  show vP ((x.l.map (DV.I k)).map .D) ((y.l.map (DV.I k)).map .D)=_
  rw [aR0 k x.l y.l (x.len.trans y.len.symm)]
  congr 1
  rw [Bool.eq_iff_iff,decide_eq_true_eq,decide_eq_true_eq]
  exact ⟨fun e=>Arr.ext e,fun e=>by rw [e]⟩
 | .u,h,_,_ | .b,h,_,_ | .s,h,_,_ | .w _,h,_,_ | .sl _,h,_,_ | .o _,h,_,_=>by cases h
theorem aMv:∀ {a b:List IntKind} {c d:List AV},uA a c=true->uA b d=true->uA (a ++ b) (c ++ d)=true
 | a,b,c,d,h,h2=>by
  unfold uA at h
  split at h
  ·exact h2
  ·rw [Bool.and_eq_true] at h
   show (decide _ && uA (_ ++ b) (_ ++ d))=true
   rw [h.1,aMv h.2 h2];rfl
  ·cases h
theorem aRv (k:IntKind):∀ (n:Nat) (l:List Int),l.length=n->uA (List.replicate n k) ((l.map (DV.I k)).map .D)=true
 | 0,l,h=>by rw [List.length_eq_zero_iff.1 h];rfl
 | n + 1,[],h=>by cases h
 | n + 1,x :: l,h=>by
  show (decide (k=k) && uA (List.replicate n k) ((l.map (DV.I k)).map .D))=true
  rw [decide_eq_true rfl,aRv k n l (by simpa using h)];rfl
theorem aI3:∀ {t:Ty},vT t=true->∀ x:t.T,uA (aHw t) ((t.ds x).map .D)=true
 | .i k,_,x=>by show (decide (k=k) && true)=true;rw [decide_eq_true rfl];rfl
 | .p a b,h,x=>by
  have h:(vT a && vT b)=true:=h
  rw [Bool.and_eq_true] at h
  show uA (aHw a ++ aHw b) ((a.ds x.1 ++ b.ds x.2).map .D)=true
  rw [List.map_append]
  exact aMv (aI3 h.1 x.1) (aI3 h.2 x.2)
 | .ar n k,_,x=>aRv k n x.l x.len
 | .u,h,_ | .b,h,_ | .s,h,_ | .w _,h,_ | .sl _,h,_ | .o _,h,_=>by cases h
theorem pH {K:Ty} (h:nJ K=true) (x y:K.T):(aM K x).keq (aM K y)=some (decide (y=x)):=by
 cases K <;> first | (cases h;done) | skip
 ·rename_i k
  show (if k=k then some ((x:Int) == y) else none)=_
  rw [if_pos rfl]
  congr 1
  rw [Bool.eq_iff_iff,beq_iff_eq,decide_eq_true_eq]
  exact ⟨Eq.symm,Eq.symm⟩
 ·show some ((x:List UInt8) == y)=_
  congr 1
  rw [Bool.eq_iff_iff,beq_iff_eq,decide_eq_true_eq]
  exact ⟨Eq.symm,Eq.symm⟩
 ·exact aKb h x y
 ·exact aKb (t:=.ar _ _) rfl x y
theorem vL {K:Ty} (h:nJ K=true) (x:K.T):(aM K x).isK K.kd=true:=by
 cases K <;> first | (cases h;done) | skip
 ·exact decide_eq_true rfl
 ·rfl
 ·exact aI3 h x
 ·exact aI3 (t:=.ar _ _) rfl x
theorem gO {wr:Bool} {K V:Ty} (hk:nJ K=true) (y:K.T):∀ (es:List (K.T × V.T)) (hole:Option K.T),∃ r,bW (aM K y) (aX wr K V es hole)=some r /\
  match bL es y with
  | none=>r=none
  | some v=>∃ j,r=some (j,if hole=some y then .v (aKd wr V v) else gT wr V v)
 | [],hole=>⟨none,rfl,rfl⟩
 | e :: es,hole=>by
  have key:∀ (mv:MV) (rest:List (AV × MV)) (r0:Option (Nat × MV)),bW (aM K y) rest=some r0->bW (aM K y) ((aM K e.1,mv) :: rest)=some (if e.1=y then some (0,mv) else match r0 with | some (j,v)=>some (j + 1,v) | none=>none):=fun mv rest r0 h0=>by
   unfold bW
   rw [pH hk]
   by_cases he:e.1=y
   ·rw [decide_eq_true he,if_pos he]
   ·rw [decide_eq_false he,if_neg he]
    simp only [h0]
    cases r0 with
    | none=>rfl
    | some p=>rfl
  have hg:bL (e :: es) y=if e.1=y then some e.2 else bL es y:=rfl
  cases hole with
  | none =>
   obtain ⟨r0,h0,h1⟩:=gO hk y es none
   refine ⟨_,key (gT wr V e.2) _ r0 h0,?_⟩
   rw [hg]
   by_cases he:e.1=y
   ·rw [if_pos he,if_pos he];exact ⟨0,by rw [if_neg (fun h=>by cases h)]⟩
   ·rw [if_neg he,if_neg he]
    cases hm:bL es y with
    | none=>rw [hm] at h1;simp only at h1;subst h1;rfl
    | some v=>rw [hm] at h1;obtain ⟨j,rfl⟩:=h1;exact ⟨j + 1,rfl⟩
  | some z =>
   by_cases hz:e.1=z
   ·obtain ⟨r0,h0,h1⟩:=gO hk y es none
    refine ⟨_,by unfold aX;rw [if_pos hz];exact key (.v (aKd wr V e.2)) _ r0 h0,?_⟩
    rw [hg]
    by_cases he:e.1=y
    ·rw [if_pos he,if_pos he];exact ⟨0,by rw [if_pos (by rw [<- hz,he])]⟩
    ·rw [if_neg he,if_neg he]
     cases hm:bL es y with
     | none=>rw [hm] at h1;simp only at h1;subst h1;rfl
     | some v =>
      rw [hm] at h1;obtain ⟨j,rfl⟩:=h1
      exact ⟨j + 1,by rw [if_neg (fun h=>by cases h),if_neg (fun h=>he (by cases h;exact hz))]⟩
   ·obtain ⟨r0,h0,h1⟩:=gO hk y es (some z)
    refine ⟨_,by unfold aX;rw [if_neg hz];exact key (gT wr V e.2) _ r0 h0,?_⟩
    rw [hg]
    by_cases he:e.1=y
    ·rw [if_pos he,if_pos he];exact ⟨0,by rw [if_neg (fun h=>hz (by cases h;exact he))]⟩
    ·rw [if_neg he,if_neg he]
     cases hm:bL es y with
     | none=>rw [hm] at h1;simp only at h1;subst h1;rfl
     | some v=>rw [hm] at h1;obtain ⟨j,rfl⟩:=h1;exact ⟨j + 1,rfl⟩
def zOk (V:Ty):AV->Bool
 | .agg cs=>!(jU V) && zeq cs ((V.ds V.z).map .D)
 | a=>jU V && zeq [a] [aM V V.z]
theorem bDq {V:Ty} {z:AV} (h:zOk V z=true):z=aM V V.z:=by
 unfold zOk at h
 split at h
 ·rw [Bool.and_eq_true,Bool.not_eq_true'] at h
  rw [kB _ h.1,<- aBj h.2]
 ·rw [Bool.and_eq_true] at h
  have:=aBj h.2
  injection this
def kdB (a b:KD):Bool:=match a,b with
 | .i k,.i k'=>decide (k=k')
 | .s,.s=>true
 | .a l,.a l'=>decide (l=l')
 | _,_=>false
theorem wU {a b:KD} (h:kdB a b=true):a=b:=by
 unfold kdB at h
 split at h
 ·rw [of_decide_eq_true h]
 ·rfl
 ·rw [of_decide_eq_true h]
 ·cases h
def aHq (K:Ty) (v:XV):Option K.T:=match v with
 | .d t x=>t.cst K x
 | .agg cs=>match jU K with
  | true=>none
  | false=>match pkD K cs with
   | some (x,[])=>some x
   | _=>none
 | _=>none
theorem zP [YL] {K:Ty} {v:XV} {y:K.T} (h:aHq K v=some y):v.er=aM K y:=by
 unfold aHq at h
 split at h
 ·obtain ⟨e,rfl⟩:=Ty.cst_ok h
  subst e;rfl
 ·split at h
  ·cases h
  ·rename_i cs _ hl
   split at h
   ·rename_i x hp
    cases h
    obtain ⟨l1,e1,e2⟩:=tW hp
    rw [List.append_nil] at e1
    subst e1
    rw [kB _ hl]
    show AV.agg (XV.fcL _)=_
    rw [e2]
   ·cases h
 ·cases h
def aVw (s:XS) (kd:KD) (z:AV) (ok:Bool) (K:XV->Option R):XV->XV->Option R
 | .mref h,vy=>match s.lk h with
  | some (.mp false K0 V es _ _)=>match nJ K0 && kdB K0.kd kd && zOk V z,aHq K0 vy with
   | true,some y=>match ok with
    | true=>K (.tup [bBa V ((bL es y).getD V.z),.d .b (bL es y).isSome])
    | false=>K (bBa V ((bL es y).getD V.z))
   | _,_=>none
  | _=>none
 | _,_=>none
theorem vD (wr:Bool) (K V:Ty):∀ (es:List (K.T × V.T)) (hole:Option K.T),(aX wr K V es hole).length=es.length
 | [],_=>rfl
 | e :: es,none=>congrArg (· + 1) (vD wr K V es none)
 | e :: es,some y=>by
  unfold aX
  split
  ·exact congrArg (· + 1) (vD wr K V es none)
  ·exact congrArg (· + 1) (vD wr K V es (some y))
theorem aA5 (K V:Ty):∀ (es:List (K.T × V.T)) (l:List K.T),(eM K V es l).length=es.length
 | [],_=>rfl
 | e :: es,l=>by
  unfold eM
  split
  ·exact congrArg (· + 1) (aA5 K V es _)
  ·exact congrArg (· + 1) (aA5 K V es _)
theorem aT4 (wr:Bool) (K V:Ty) (es:List (K.T × V.T)) (hole:Option K.T) (i:Option (Hd × Option K.T × List K.T)):(gG wr K V es hole i).length=es.length:=by
 unfold gG
 split
 ·exact aA5 _ _ _ _
 ·exact vD _ _ _ _ _
theorem aXc [YL] {s:XS} {kd:KD} {z:AV} {ok:Bool} {K:XV->Option R} {r:R} {vx vy:XV} (h:aVw s kd z ok K vx vy=some r) {KP:AV->Prop} (hK:∀ v,K v=some r->KP v.er) :
  ∃ h es i q,vx.er=.mref h/\s.er.lk h=some (.mp kd es i)/\vy.er.isK kd=true/\bW vy.er es=some q /\
   match q with
   | some (_,mv)=>KP (if ok=true then .tup [mv.av,.D (.B true)] else mv.av)
   | none=>KP (if ok=true then .tup [z,.D (.B false)] else z):=by
 unfold aVw at h
 split at h
 ·rename_i hd
  split at h
  ·rename_i K0 V es hole i hl
   split at h
   ·rename_i y hb hy
    rw [Bool.and_eq_true,Bool.and_eq_true] at hb
    obtain ⟨⟨hk,hkd⟩,hz⟩:=hb
    have hkd:=wU hkd
    subst hkd
    have hz:=bDq hz
    subst hz
    have ey:=zP hy
    obtain ⟨q,f1,f2⟩:=gO (V:=V) hk y es hole
    refine ⟨hd,_,_,q,rfl,by rw [aS,hl];rfl,by rw [ey];exact vL hk y,by rw [ey];exact f1,?_⟩
    cases hm:bL es y with
    | none =>
     rw [hm] at f2 h
     simp only at f2
     subst f2
     simp only
     cases ok with
     | true =>
      have:=hK _ h
      simp only [XV.er,XV.erL,yZ,Option.getD_none,Option.isSome_none] at this
      exact this
     | false =>
      have:=hK _ h
      rw [yZ] at this
      exact this
    | some v =>
     rw [hm] at f2 h
     obtain ⟨j,rfl⟩:=f2
     have e:(if hole=some y then MV.v (aKd false V v) else gT false V v).av=aM V v:=by
      split
      ·rfl
      ·exact aRy _ _
     simp only [e]
     cases ok with
     | true =>
      have:=hK _ h
      simp only [XV.er,XV.erL,yZ,Option.getD_some,Option.isSome_some] at this
      exact this
     | false =>
      have:=hK _ h
      rw [yZ] at this
      exact this
   ·cases h
  ·cases h
 ·cases h
def bDo (s:XS) (K:XV->Option R):XV->Option R
 | .itr h hi=>match s.lk h,s.lk hi with
  | some (.mp false K0 V es _ (some (hi',some cur,_))),some _=>match nJ K0 && hi.eqb hi' with
   | true=>bd? (bL es cur) fun v=>K (.tup [aG4 K0 cur,bBa V v])
   | false=>none
  | _,_=>none
 | _=>none
theorem aZj [YL] {s:XS} {K:XV->Option R} {r:R} {vx:XV} (h:bDo s K vx=some r) {KP:AV->Prop} (hK:∀ v,K v=some r->KP v.er) :
  ∃ hi h kd es cur rem j mv,vx.er=.itr h hi/\(s.er.lk hi).isSome=true/\s.er.lk h=some (.mp kd es (some (hi,[cur],rem)))/\cur.isK kd=true/\bW cur es=some (some (j,mv))/\KP (.tup [cur,mv.av]):=by
 unfold bDo at h
 split at h
 ·rename_i hd hi
  split at h
  ·rename_i K0 V es hole hi' cur rem b hl hl2
   split at h
   ·rename_i hb
    rw [Bool.and_eq_true] at hb
    obtain ⟨hk,hh⟩:=hb
    obtain rfl:=Hd.eqb_iff.1 hh
    obtain ⟨v,hv,h⟩:=aWn h
    obtain ⟨q,f1,f2⟩:=gO (V:=V) hk cur es hole
    rw [hv] at f2
    obtain ⟨j,rfl⟩:=f2
    refine ⟨hi,hd,K0.kd,_,aM K0 cur,_,j,_,rfl,by rw [aS,hl2];rfl,by rw [aS,hl];rfl,vL hk cur,f1,?_⟩
    have e:(if hole=some cur then MV.v (aKd false V v) else gT false V v).av=aM V v:=by
     split
     ·rfl
     ·exact aRy _ _
    rw [e]
    have:=hK _ h
    simp only [XV.er,XV.erL,yZ,uS] at this
    exact this
   ·cases h
  ·cases h
 ·cases h
def bEp (neg:Bool) (K:XV->Option R):XV->Option R
 | .ptr _ _=>K (.d .b neg)
 | .c (.pointer none)=>K (.d .b (!neg))
 | _=>none
theorem bBz [YL] {neg:Bool} {K:XV->Option R} {r:R} {v:XV} (h:bEp neg K v=some r) {KP:AV->Prop} (hK:∀ v,K v=some r->KP v.er):match v.er with
  | .ptr _ _=>KP (.D (.B neg))
  | .D (.C (.pointer none))=>KP (.D (.B (!neg)))
  | _=>False:=by
 unfold bEp at h
 split at h
 ·exact hK _ h
 ·exact hK _ h
 ·cases h
def aSg (k:IntKind):List XV->Option (List Int)
 | []=>some []
 | .d (.i k') x :: l=>match decide (k'=k),aSg k l with
  | true,some r=>some (x :: r)
  | _,_=>none
 | _=>none
theorem aL7 [YL] {k:IntKind}:∀ {l:List XV} {xs:List Int},aSg k l=some xs->XV.fcL l=(xs.map (DV.I k)).map .D
 | [],xs,h=>by cases h;rfl
 | v :: l,xs,h=>by
  unfold aSg at h
  split at h
  ·rename_i e;cases e
  ·rename_i k' x l' e
   cases e
   split at h
   ·rename_i r h1 h2
    cases h
    have h1:=of_decide_eq_true h1
    subst h1
    show [AV.D (.I _ x)] ++ XV.fcL l=_
    rw [aL7 h2];rfl
   ·cases h
  ·cases h
def xzB (ty:Option Ty) (zs:List AV) (ps:List (Nat × Nat × Operand)):Option (List XV):=match ty,ps with
 | some (.ar _ _),_ :: _=>zX zs
 | _,_=>aR5 ty zs
theorem bC2 [YL] {ty:Option Ty} {zs:List AV} {ps:List (Nat × Nat × Operand)} {l:List XV} (h:xzB ty zs ps=some l):XV.fcL l=zs:=by
 unfold xzB at h
 split at h
 ·exact bCn h
 ·exact aM3 h
def bDe (ty:Option Ty) (K:XV->Option R) (l:List XV):Option R:=match ty with
 | some (.ar n k)=>match aSg k l with
  | some xs=>match Nat.beq xs.length n with
   | true=>K (.d (.ar n k) (Arr.from xs n))
   | false=>K (.agg l)
  | none=>K (.agg l)
 | _=>K (.agg l)
theorem aZq [YL] {ty:Option Ty} {K:XV->Option R} {l:List XV} {r:R} (h:bDe ty K l=some r) {KP:AV->Prop} (hK:∀ v,K v=some r->KP v.er):KP (.agg (XV.fcL l)):=by
 unfold bDe at h
 split at h
 ·rename_i n k
  split at h
  ·rename_i xs hx
   split at h
   ·rename_i hb
    have:=hK _ h
    have e:(XV.d (.ar n k) (Arr.from xs n)).er=.agg (XV.fcL l):=by
     show AV.agg (((Arr.from xs n).l.map (DV.I k)).map .D)=_
     rw [aL7 hx,Arr.l_from (Nat.le_of_eq (Nat.eq_of_beq_eq_true hb).symm),List.take_of_length_le (Nat.le_of_eq (Nat.eq_of_beq_eq_true hb))]
    rw [e] at this;exact this
   ·exact hK _ h
  ·exact hK _ h
 ·exact hK _ h
def xp (T:List Sig) (s:XS) (ty:Option Ty) (op:ROp) (K:XV->List XB->List Hd->Option R):Option R :=
 match op with
 | .mv x=>w1 s x fun v=>K v [] []
 | .pick c a b=>w1 s c fun vc=>w1 s a fun va=>w1 s b fun vb=>match vc with
  | .d .b x=>aYt x (fun v=>K v [] []) va vb
  | _=>none
 | .new zs=>match aR5 ty zs with
  | some l=>K (.ptr (.O s.own.length) 0) [.box l] []
  | none=>none
 | .build zs ps=>match xzB ty zs ps with
  | some l=>aOk s ps l fun l=>bDe ty (fun v=>K v [] []) l
  | none=>none
 | .bslice k ps=>match ps with
  | []=>K (.fln ((elT ty).getD .u)) [] []
  | ps=>match elT ty with
   | some t=>match Nat.beq t.n k with
    | true=>wL s ps fun vs=>xbs s t vs fun xs=>K (.slw (.O s.own.length) t ps.length) [.row true t xs] (xfz s (XV.hrL vs))
    | false=>none
   | none=>none
 | .bsF k ps=>match ps with
  | []=>K (.fln ((elT ty).getD .u)) [] []
  | ps=>match elT ty with
   | some t=>match Nat.beq t.n k with
    | true=>wL s ps fun vs=>xbs ⟨s.env,[],[]⟩ t vs fun xs=>K (.fl t xs) [] []
    | false=>none
   | none=>none
 | .box x=>w1 s x fun v=>match rG v with
  | some cs=>K (.ptr (.O s.own.length) 0) [.box cs] []
  | none=>none
 | .load ag x=>w1 s x (aRf s ag fun a=>K a [] [])
 | .bin op x y=>w1 s x fun a=>w1 s y fun c=>bE7 op (fun a=>K a [] []) a c
 | .eqs neg kds x y=>w1 s x fun a=>w1 s y fun c=>match a,c with
  | .agg xs,.agg ys=>match aNr kds xs ys with
   | some q=>K (.d .b (match neg with
    | true=>!q
    | false=>q)) [] []
   | none=>none
  | _,_=>none
 | .beq neg x y=>w1 s x fun a=>w1 s y fun c=>match a,c with
  | .d .b p,.d .b q=>K (.d .b (match neg with
   | true=>!(p == q)
   | false=>p == q)) [] []
  | _,_=>none
 | .un op x=>w1 s x (xun op fun a=>K a [] [])
 | .faddr off x=>w1 s x fun v=>match sS s v with
  | true=>aI8 off (fun a=>K a [] []) v
  | false=>none
 | .field off ag x=>w1 s x fun v=>match v with
  | .agg cs=>aUo ag cs off fun a=>K a [] []
  | _=>none
 | .iaddr k x i=>w1 s x fun v=>w1 s i fun vi=>match sS s v with
  | true=>match vi with
   | .d (.i _) j=>aFt k j (fun a=>K a [] []) v
   | _=>none
  | false=>none
 | .ixs x i=>w1 s x fun v=>w1 s i fun vi=>match v,vi with
  | .d .s t,.d (.i _) j=>aT t j fun c=>K (.d (.i .u8) c.toNat) [] []
  | _,_=>none
 | .sls x lo hi=>w1 s x fun v=>match v with
  | .d .s t=>sY s hi t.length fun h=>sY s lo 0 fun l=>gd? (l <= h) (gd? (h <= t.length) (K (.d .s ((t.drop l).take (h - l))) [] []))
  | _=>none
 | .sll k x lo hi mx=>w1 s x fun v=>match sS s v with
  | true=>aPh s k lo hi mx (fun a=>K a [] []) v
  | false=>none
 | .ext x i=>w1 s x fun v=>match v with
  | .tup vs=>match nth vs i with
   | some a=>K a [] []
   | none=>none
  | _=>none
 | .call f args=>w1 s f fun vf=>wL s args fun vs=>aV9 T s vs K vf
 | .len str x=>w1 s x fun v=>match sS s v with
  | true=>match aXo str v with
   | some m=>K (.d (.i .i64) (m:Int)) [] []
   | none=>none
  | false=>none
 | .mm isMax x y=>w1 s x fun a=>w1 s y fun c=>match a,c with
  | .d (.i k) p,.d (.i k') q=>if k=k' then K (.d (.i k) (match isMax with
   | true=>max p q
   | false=>min p q)) [] [] else none
  | _,_=>none
 | .mkf f caps=>wL s caps fun vs=>K (.clo f vs) [] []
 | .cvI k x=>w1 s x fun v=>match v with
  | .d (.i _) j=>K (.d (.i k) (k.wrap j)) [] []
  | _=>none
 | .cvS x=>w1 s x fun v=>nC s (.sl (.i .u8)) v fun xs=>K (.d .s (aN5 xs)) [] []
 | .cvB x=>w1 s x fun v=>match v with
  | .d .s t=>K (.d (.sl (.i .u8)) (aR8 t)) [] []
  | _=>none
 | .iaddrA m k x i=>w1 s x fun v=>w1 s i fun vi=>match sS s v with
  | true=>match vi with
   | .d (.i _) j=>bD6 m k j (fun a=>K a [] []) v
   | _=>none
  | false=>none
 | .idxA m k ag x i=>w1 s x fun v=>w1 s i fun vi=>match vi with
  | .d (.i _) j=>bFy m k ag j (fun a=>K a [] []) (unA v)
  | _=>none
 | .slsA m x lo hi=>w1 s x fun v=>bGk s m lo hi (fun a=>K a [] []) v
 | .newR zs=>match ty with
  | some t=>bCq zs (fun v b=>K v [b] []) s.own.length t
  | none=>none
 | .boxR x=>w1 s x fun v=>bCc (fun v b=>K v [b] []) s.own.length v
 | .eqa neg k m x y=>w1 s x fun a=>w1 s y fun c=>bC8 k m (fun q=>K (.d (.b) (match neg with
  | true=>!q
  | false=>q)) [] []) (unA a) (unA c)
 | .isnil neg x=>w1 s x fun v=>match sS s v with
  | true=>match aXo false v with
   | some m=>if? (decide (0 < m)) (K (.d .b neg) [] []) (K .ab [] [])
   | none=>none
  | false=>none
 | .nilc x=>w1 s x fun v=>match sS s v with
  | true=>aSa (fun a=>K a [] []) v
  | false=>none
 | .isp neg x=>w1 s x fun v=>match sS s v with
  | true=>bEp neg (fun a=>K a [] []) v
  | false=>none
 | .eqg neg sh x y=>w1 s x fun a=>w1 s y fun c=>match a,c with
  | .agg xs,.agg ys=>match aNz sh xs ys with
   | some q=>K (.d .b (match neg with
    | true=>!q
    | false=>q)) [] []
   | none=>none
  | _,_=>none
 | .mkm kd=>match ty with
  | some (.p K0 V)=>match kdB K0.kd kd with
   | true=>K (.mref (.O s.own.length)) [.mp false K0 V [] none none] []
   | false=>none
  | _=>none
 | .mkmW kd=>match ty with
  | some (.p K0 V)=>match kdB K0.kd kd with
   | true=>K (.mref (.O s.own.length)) [.mp true K0 V [] none none] []
   | false=>none
  | _=>none
 | .mget kd z _ ok x y=>w1 s x fun vx=>w1 s y fun vy=>aVw s kd z ok (fun a=>K a [] []) vx vy
 | .mlen x=>w1 s x fun v=>match v with
  | .mref h=>match s.lk h with
   | some (.mp _ _ _ es _ _)=>K (.d (.i .i64) (es.length:Int)) [] []
   | _=>none
  | _=>none
 | .ent x=>w1 s x (bDo s fun a=>K a [] [])
 | .loadD ag x=>w1 s x fun v=>match v with
  | .rop t x off=>bDz ag off (fun a=>K a [] []) t x
  | _=>none
 | .iaddrD k x i=>w1 s x fun v=>w1 s i fun vi=>match vi,v with
  | .d (.i _) j,.d (.sl t) xs=>aFt k j (fun a=>K a [] []) (.d (.sl t) xs)
  | .d (.i _) j,.fl t xs=>aFt k j (fun a=>K a [] []) (.fl t xs)
  | _,_=>none
 | .mks k bytes zs x y=>w1 s x fun vx=>w1 s y fun vy=>match elT ty with
  | some t=>bEl t k bytes zs (fun v b=>K v [b] []) s.own.length vx vy
  | none=>none
 | _=>none
theorem aUn {lk:aH} {ag:Option Nat} {KP:AV->Prop} {ds:List DV} (h:mN lk ag KP (.rop ds)):mN (fun _=>none) ag KP (.rop ds):=h
theorem bCo [YL] {P:Program} {T:List Sig} (hT:pD P T) {s:XS} {ty:Option Ty} {op:ROp} {K:XV->List XB->List Hd->Option R} {r:R} (h:xp T s ty op K=some r) {KP:AV->List Blk->List Hd->Prop}
  (hK:∀ v nbs fz,K v nbs fz=some r->KP v.er (nbs.map XB.er) fz):aN P s.er.lk s.er.nx s.er.ev op KP:=by
 unfold xp at h
 split at h
 ·obtain ⟨h,e⟩:=aI h
  show KP (s.er.ev _) [] []
  rw [e];exact hK _ _ _ h
 ·obtain ⟨h,e1⟩:=aI h
  obtain ⟨h,e2⟩:=aI h
  obtain ⟨h,e3⟩:=aI h
  split at h
  ·rename_i x hx
   refine ⟨x,by rw [e1,hx];rfl,?_⟩
   rw [e2,e3]
   exact aXz (KP:=fun a=>KP a [] []) h fun v h=>hK _ _ _ h
  ·cases h
 ·split at h
  ·rename_i l hl
   have:=hK _ _ _ h
   show KP (.ptr (.O s.own.length) 0) [.box _] []
   rw [<- aM3 hl];exact this
  ·cases h
 ·split at h
  ·rename_i l hl
   have e:=bC2 hl
   exact aHu (KP:=fun a=>KP a [] []) (fun l h=>aZq (KP:=fun a=>KP a [] []) h fun v h=>hK v [] [] h) (acc:=[]) e (by rw [e]) h
  ·cases h
 ·rename_i k ps
  split at h
  ·exact hK _ _ _ h
  ·rename_i ps' hne
   split at h
   ·rename_i t _
    split at h
    ·rename_i hb
     have hk:=Nat.eq_of_beq_eq_true hb
     obtain ⟨vs,h,e⟩:=aHl h
     obtain ⟨xs,h,h1,h2⟩:=aOz hk e h
     show if ps=[] then _ else _
     rw [if_neg hne]
     refine ⟨_,h1,?_⟩
     rw [h2,oO]
     have:=hK _ _ _ h
     have e2:([XB.row true t xs].map XB.er)=[Blk.row true k (xs.map t.ds)]:=by
      show [Blk.row true t.n (xs.map t.ds)]=_
      rw [hk]
     have e3:(XV.slw (.O s.own.length) t ps.length).er=.sl (.O s.own.length) k 0 ps.length:=by
      show AV.sl (.O s.own.length) t.n 0 ps.length=_
      rw [hk]
     rw [e2,e3] at this
     exact this
    ·cases h
   ·cases h
 ·rename_i k ps
  split at h
  ·exact .inl ⟨rfl,hK _ _ _ h⟩
  ·rename_i ps' hne
   split at h
   ·rename_i t _
    split at h
    ·rename_i hb
     have hk:=Nat.eq_of_beq_eq_true hb
     obtain ⟨vs,h,e⟩:=aHl h
     have e':ps.map (XS.er ⟨s.env,[],[]⟩).ev=XV.erL vs:=by
      rw [<- e]
      apply List.map_congr_left
      intro x _
      cases x <;> rfl
     obtain ⟨xs,h,h1,_⟩:=aOz hk e' h
     refine .inr ⟨hne,xs.map t.ds,?_,hK _ _ _ h⟩
     have e1:(XS.er ⟨s.env,[],[]⟩).lk=fun _=>none:=by funext x;cases x <;> rfl
     have e2:(XS.er ⟨s.env,[],[]⟩).ev=s.er.ev:=by funext x;cases x <;> rfl
     rw [e1,e2] at h1
     exact h1
    ·cases h
   ·cases h
 ·obtain ⟨h,e1⟩:=aI h
  split at h
  ·rename_i cs hcs
   exact ⟨_,by rw [e1];exact oC hcs,hK _ _ _ h⟩
  ·cases h
 ·obtain ⟨h,e1⟩:=aI h
  show mN s.er.lk _ (fun a=>KP a [] []) (s.er.ev _)
  rw [e1]
  exact aEp h fun v h=>hK _ _ _ h
 ·obtain ⟨h,e1⟩:=aI h
  obtain ⟨h,e2⟩:=aI h
  show aUe _ (fun a=>KP a [] []) (s.er.ev _) (s.er.ev _)
  rw [e1,e2]
  exact bBu h fun v h=>hK _ _ _ h
 ·obtain ⟨h,e1⟩:=aI h
  obtain ⟨h,e2⟩:=aI h
  split at h
  ·rename_i xs ys hx hy
   split at h
   ·rename_i q hq
    refine ⟨XV.fcL xs,XV.fcL ys,q,by rw [e1,hx];rfl,by rw [e2,hy];rfl,aM5 hq,?_⟩
    have:=hK _ _ _ h
    split at this <;> exact this
   ·cases h
  ·cases h
 ·obtain ⟨h,e1⟩:=aI h
  obtain ⟨h,e2⟩:=aI h
  split at h
  ·rename_i p q hx hy
   refine ⟨p,q,by rw [e1,hx];rfl,by rw [e2,hy];rfl,?_⟩
   have:=hK _ _ _ h
   split at this <;> exact this
  ·cases h
 ·obtain ⟨h,e1⟩:=aI h
  show aun _ (fun a=>KP a [] []) (s.er.ev _)
  rw [e1]
  exact bE2 h fun v h=>hK _ _ _ h
 ·obtain ⟨h,e1⟩:=aI h
  split at h
  ·rename_i hl
   show AV.live s.er.lk (s.er.ev _)=true/\_
   rw [e1]
   exact ⟨gJ hl,aIm h (KP:=fun a=>KP a [] []) fun v h=>hK _ _ _ h⟩
  ·cases h
 ·obtain ⟨h,e1⟩:=aI h
  split at h
  ·rename_i cs hx
   refine ⟨XV.fcL cs,by rw [e1,hx];rfl,?_⟩
   obtain ⟨v,h1,h2⟩:=aDl h
   split
   ·exact ⟨_,h2,hK _ _ _ h1⟩
   ·exact ⟨h2.1,by rw [<- h2.2];exact hK _ _ _ h1⟩
  ·cases h
 ·obtain ⟨h,e1⟩:=aI h
  obtain ⟨h,e2⟩:=aI h
  split at h
  ·rename_i hl
   split at h
   ·rename_i k j hj
    obtain ⟨h1,h2⟩:=aAz h (KP:=fun a=>KP a [] []) fun v h=>hK _ _ _ h
    show AV.live s.er.lk (s.er.ev _)=true/\_
    rw [e1]
    exact ⟨gJ hl,k,j,by rw [e2,hj];rfl,h1,h2⟩
   ·cases h
  ·cases h
 ·obtain ⟨h,e1⟩:=aI h
  obtain ⟨h,e2⟩:=aI h
  split at h
  ·rename_i t k j hx hj
   obtain ⟨c,h0,hc,h⟩:=aLd h
   exact ⟨t,k,j,c,by rw [e1,hx];rfl,by rw [e2,hj];rfl,h0,hc,hK _ _ _ h⟩
  ·cases h
 ·obtain ⟨h,e1⟩:=aI h
  split at h
  ·rename_i t hx
   refine ⟨t,by rw [e1,hx];rfl,eP h fun hh h=>eP h fun l h=>?_⟩
   obtain ⟨h1,h⟩:=bN h
   obtain ⟨h2,h⟩:=bN h
   exact ⟨h1,h2,hK _ _ _ h⟩
  ·cases h
 ·obtain ⟨h,e1⟩:=aI h
  split at h
  ·rename_i hl
   show AV.live s.er.lk (s.er.ev _)=true/\aI5 _ s.er.ev _ _ _ (fun a=>KP a [] []) (s.er.ev _)
   rw [e1]
   exact ⟨gJ hl,aUi h fun v h=>hK _ _ _ h⟩
  ·cases h
 ·obtain ⟨h,e1⟩:=aI h
  split at h
  ·rename_i vs hx
   split at h
   ·rename_i a ha
    exact ⟨XV.erL vs,_,by rw [e1,hx];rfl,aWt ha,hK _ _ _ h⟩
   ·cases h
  ·cases h
 ·obtain ⟨h,e1⟩:=aI h
  obtain ⟨vs,h,e2⟩:=aHl h
  obtain ⟨fn,caps,rr,nbs,f1,f2,f3⟩:=aYk hT h hK
  exact ⟨fn,caps,rr,nbs,by rw [e1];exact f1,by rw [e2];exact f2,by rw [e2];exact f3⟩
 ·obtain ⟨h,e1⟩:=aI h
  split at h
  ·rename_i hl
   split at h
   ·rename_i m hm
    show AV.live s.er.lk (s.er.ev _)=true/\∃ m,(s.er.ev _).len? _=some m/\_
    rw [e1]
    exact ⟨gJ hl,m,aJt hm,hK _ _ _ h⟩
   ·cases h
  ·cases h
 ·obtain ⟨h,e1⟩:=aI h
  obtain ⟨h,e2⟩:=aI h
  split at h
  ·rename_i k p k' q hx hy
   rw [Option.ite_none_right_eq_some] at h
   obtain ⟨rfl,h⟩:=h
   refine ⟨k,p,q,by rw [e1,hx];rfl,by rw [e2,hy];rfl,?_⟩
   have:=hK _ _ _ h
   split at this <;> exact this
  ·cases h
 ·obtain ⟨vs,h,e⟩:=aHl h
  show KP (.clo _ (_:List AV)) [] []
  rw [e];exact hK _ _ _ h
 ·obtain ⟨h,e1⟩:=aI h
  split at h
  ·rename_i k j hx
   exact ⟨k,j,by rw [e1,hx];rfl,hK _ _ _ h⟩
  ·cases h
 ·obtain ⟨h,e1⟩:=aI h
  obtain ⟨xs,h,h1,h2⟩:=aCg h
  refine ⟨_,aN5 xs,by rw [e1];exact h1,?_,by rw [e1];exact h2,hK _ _ _ h⟩
  exact aCz
 ·obtain ⟨h,e1⟩:=aI h
  split at h
  ·rename_i t hx
   refine ⟨t,by rw [e1,hx];rfl,?_⟩
   have:=hK _ _ _ h
   simp only [XV.er,aM,aR8,List.map_map] at this
   exact this
  ·cases h
 ·obtain ⟨h,e1⟩:=aI h
  obtain ⟨h,e2⟩:=aI h
  split at h
  ·rename_i hl
   split at h
   ·rename_i k j hj
    obtain ⟨h1,h2,h3⟩:=bA7 h (KP:=fun a=>KP a [] []) fun v h=>hK _ _ _ h
    show AV.live s.er.lk (s.er.ev _)=true/\_
    rw [e1]
    exact ⟨gJ hl,k,j,by rw [e2,hj];rfl,h1,h2,h3⟩
   ·cases h
  ·cases h
 ·obtain ⟨h,e1⟩:=aI h
  obtain ⟨h,e2⟩:=aI h
  split at h
  ·rename_i k j hj
   obtain ⟨cs,h1,h2,h3,h4⟩:=bAl h (KP:=fun a=>KP a [] []) fun v h=>hK _ _ _ h
   exact ⟨cs,k,j,by rw [e1,<- aJr,h1],by rw [e2,hj];rfl,h2,h3,h4⟩
  ·cases h
 ·obtain ⟨h,e1⟩:=aI h
  unfold bGk at h
  split at h
  ·rename_i hd ix hx
   split at h
   ·rename_i mt n kk y hl
    split at h
    ·rename_i hb
     have hb:=Nat.le_of_ble_eq_true hb
     refine ⟨hd,ix,mt,y.l.map (arD kk),by rw [e1,hx];rfl,by rw [aS,hl];rfl,by rw [List.length_map,y.len];exact hb,?_⟩
     refine eP h fun hh h=>eP h fun l h=>?_
     obtain ⟨h1,h⟩:=bN h
     obtain ⟨h2,h⟩:=bN h
     have:=hK _ _ _ h
     rw [wW,Nat.mul_one] at this
     exact ⟨h1,h2,this⟩
    ·cases h
   ·cases h
  ·cases h
 ·split at h
  ·rename_i t
   unfold bCq at h
   split at h
   ·rename_i n k
    split at h
    ·rename_i hz
     refine ⟨List.replicate n (DV.I k 0),by rw [bCk hz];exact aKw _,?_⟩
     have:=hK _ _ _ h
     have e:(List.replicate n (DV.I k 0)).map (fun d=>[d])=(Arr.zero n).l.map (arD k):=by
      show _=(List.replicate n (0:Int)).map (arD k)
      rw [List.map_replicate,List.map_replicate];rfl
     rw [e];exact this
    ·cases h
   ·cases h
  ·cases h
 ·obtain ⟨h,e1⟩:=aI h
  unfold bCc at h
  split at h
  ·rename_i n k y hx
   refine ⟨(y.l.map (DV.I k)).map .D,y.l.map (DV.I k),?_,aKw _,?_⟩
   ·rw [e1,hx]
    show (if AV.allOne (((Ty.ar n k).ds y).map AV.D)=true then some (((Ty.ar n k).ds y).map AV.D) else none)=some (((Ty.ar n k).ds y).map AV.D)
    rw [if_pos (rI _ _)]
   have:=hK _ _ _ h
   have e:(y.l.map (DV.I k)).map (fun d=>[d])=y.l.map (arD k):=by rw [List.map_map];rfl
   rw [e];exact this
  ·cases h
 ·obtain ⟨h,e1⟩:=aI h
  obtain ⟨h,e2⟩:=aI h
  obtain ⟨xs,ys,p,q,h1,h2,h3,h4,h5,h6,h⟩:=bBw h
  refine ⟨xs,ys,p,q,by rw [e1,<- aJr,h1],by rw [e2,<- aJr,h2],h3,h4,h5,h6,?_⟩
  have:=hK _ _ _ h
  split at this <;> exact this
 ·obtain ⟨h,e1⟩:=aI h
  split at h
  ·rename_i hl
   split at h
   ·rename_i m hm
    show AV.live s.er.lk (s.er.ev _)=true/\∃ m,(s.er.ev _).len? false=some m/\_
    rw [e1]
    refine ⟨gJ hl,m,aJt hm,?_⟩
    rcases aIt h with ⟨h0,h⟩ | ⟨h0,h⟩
    ·rw [if_neg (by have:=of_decide_eq_true h0;omega)]
     exact hK _ _ _ h
    ·rw [if_pos (by have:=of_decide_eq_false h0;omega)]
     exact hK _ _ _ h
   ·cases h
  ·cases h
 ·obtain ⟨h,e1⟩:=aI h
  split at h
  ·rename_i hl
   show AV.live s.er.lk (s.er.ev _)=true/\_
   rw [e1]
   exact ⟨gJ hl,aNq h (KP:=fun a=>KP a [] []) fun v h=>hK _ _ _ h⟩
  ·cases h
 ·obtain ⟨h,e1⟩:=aI h
  split at h
  ·rename_i hl
   show AV.live s.er.lk (s.er.ev _)=true/\_
   rw [e1]
   exact ⟨gJ hl,bBz h (KP:=fun a=>KP a [] []) fun v h=>hK _ _ _ h⟩
  ·cases h
 ·obtain ⟨h,e1⟩:=aI h
  obtain ⟨h,e2⟩:=aI h
  split at h
  ·rename_i xs ys hx hy
   split at h
   ·rename_i q hq
    refine ⟨XV.fcL xs,XV.fcL ys,q,by rw [e1,hx];rfl,by rw [e2,hy];rfl,aIq hq,?_⟩
    have:=hK _ _ _ h
    split at this <;> exact this
   ·cases h
  ·cases h
 ·split at h
  ·rename_i K0 V
   split at h
   ·rename_i hkd
    have:=hK _ _ _ h
    rw [<- wU hkd];exact this
   ·cases h
  ·cases h
 ·split at h
  ·rename_i K0 V
   split at h
   ·rename_i hkd
    have:=hK _ _ _ h
    rw [<- wU hkd];exact this
   ·cases h
  ·cases h
 ·obtain ⟨h,e1⟩:=aI h
  obtain ⟨h,e2⟩:=aI h
  have:=aXc h (KP:=fun a=>KP a [] []) fun v h=>hK _ _ _ h
  rw [<- e1,<- e2] at this
  exact this
 ·obtain ⟨h,e1⟩:=aI h
  split at h
  ·rename_i hd hx
   split at h
   ·rename_i wr K0 V es hole i hl
    refine ⟨hd,_,_,_,by rw [e1,hx];rfl,by rw [aS,hl];rfl,?_⟩
    rw [aT4]
    exact hK _ _ _ h
   ·cases h
  ·cases h
 ·obtain ⟨h,e1⟩:=aI h
  have:=aZj h (KP:=fun a=>KP a [] []) fun v h=>hK _ _ _ h
  rw [<- e1] at this
  exact this
 ·obtain ⟨h,e1⟩:=aI h
  split at h
  ·rename_i t x off hx
   show mN (fun _=>none) _ (fun a=>KP a [] []) (s.er.ev _)
   rw [e1,hx]
   exact aUn (aEp (s:=s) (a:=.rop t x off) h (KP:=fun a=>KP a [] []) fun v h=>hK _ _ _ h)
  ·cases h
 ·obtain ⟨h,e1⟩:=aI h
  obtain ⟨h,e2⟩:=aI h
  split at h
  ·rename_i k j t xs hj hx
   obtain ⟨h1,h2⟩:=aAz h (KP:=fun a=>KP a [] []) fun v h=>hK _ _ _ h
   exact ⟨k,j,by rw [e2,hj];rfl,h1,by rw [e1,hx];exact h2⟩
  ·rename_i k j t xs hj hx
   obtain ⟨h1,h2⟩:=aAz h (KP:=fun a=>KP a [] []) fun v h=>hK _ _ _ h
   exact ⟨k,j,by rw [e2,hj];rfl,h1,by rw [e1,hx];exact h2⟩
  ·cases h
 ·obtain ⟨h,e1⟩:=aI h
  obtain ⟨h,e2⟩:=aI h
  split at h
  ·rename_i t _
   obtain ⟨k1,k2,l,c,v,b,h1,h2,h3,h4,h5,h6,h7,h8,h9⟩:=bBe h
   refine ⟨k1,k2,l,c,by rw [e1,h1],by rw [e2,h2],h3,h4,h5,h6,?_⟩
   have:=hK _ _ _ h7
   rw [h8] at this
   rw [<- h9];exact this
  ·cases h
 ·cases h
end Go.Eng

namespace Go.Eng
open Go.RowKit
variable {R:Type}

def aZb (s:XS) (sz:Nat) (v:XV) (K:XS->Option R) (h:Hd) (off:Nat):Option R:=match s.lk h with
 | some (.box cs)=>match rG v with
  | some ys=>match Nat.beq (szL ys) sz with
   | true=>match aOr cs off ys sz with
    | some cs'=>K (s.setBlk h (some (.box cs')))
    | none=>none
   | false=>none
  | none=>none
 | _=>none
def bBh (k:IntKind):XV->Option Int
 | .d t c=>t.cst (.i k) c
 | _=>none
theorem aQw [YL] {k:IntKind} {v:XV} {c:Int} (h:bBh k v=some c):v.er=.D (.I k c):=by
 unfold bBh at h
 split at h
 ·obtain ⟨e,rfl⟩:=Ty.cst_ok h
  subst e;rfl
 ·cases h
theorem aVs {α:Type} {l:List α} {i:Nat} {v:α} (h:i < l.length):l.take i ++ [v] ++ l.drop (i + 1)=l.set i v:=by
 rw [List.set_eq_take_append_cons_drop,if_pos h,List.append_assoc];rfl
theorem aVr {α:Type} {l:List α} {off n j:Nat} {v:α} (h:off + n <= l.length) (hj:j < n):l.take off ++ ((l.drop off).take n).set j v ++ l.drop (off + n)=l.set (off + j) v:=by
 apply List.ext_getElem?
 intro i
 rw [List.getElem?_set]
 have hl:(((l.drop off).take n).set j v).length=n:=by rw [List.length_set,List.length_take,List.length_drop];omega
 have ht:(l.take off).length=off:=by rw [List.length_take];omega
 rcases Nat.lt_or_ge i off with h1 | h1
 ·rw [List.append_assoc,List.getElem?_append_left (by omega),List.getElem?_take_of_lt h1,if_neg (by omega)]
 ·rcases Nat.lt_or_ge i (off + n) with h2 | h2
  ·rw [List.getElem?_append_left (by rw [List.length_append];omega),List.getElem?_append_right (by omega),ht,List.getElem?_set]
   by_cases e:off + j=i
   ·subst e
    rw [if_pos (by omega),if_pos rfl,if_pos (by rw [List.length_take,List.length_drop];omega),if_pos (by omega)]
   ·rw [if_neg (by omega),if_neg e,List.getElem?_take_of_lt (by omega),List.getElem?_drop]
    congr 1;omega
  ·rw [List.getElem?_append_right (by rw [List.length_append];omega),List.length_append,ht,hl,List.getElem?_drop,if_neg (by omega)]
   congr 1;omega
def aWg (cs:List XV) (off j:Nat) (a:ArL) (c:Int):Option (List XV):=aOr cs off [.d (.ar a.n a.k) (a.x.set j c)] a.n
theorem aNm [YL] {cs l:List XV} {off j:Nat} {a:ArL} {c:Int} (ha:aKo cs off=some a) (hj:j < a.n) (h:aWg cs off j a c=some l):off + j < (XV.fcL cs).length/\XV.fcL l=(XV.fcL cs).set (off + j) (.D (.I a.k c)):=by
 obtain ⟨h1,h2⟩:=aJy ha
 obtain ⟨_,h3⟩:=yE h
 refine ⟨by omega,?_⟩
 rw [h3]
 have e:XV.fcL [XV.d (.ar a.n a.k) (a.x.set j c)]=(((XV.fcL cs).drop off).take a.n).set j (.D (.I a.k c)):=by
  rw [h1]
  show (((a.x.set j c).l.map (DV.I a.k)).map AV.D) ++ []=_
  rw [List.append_nil,Arr.l_set,List.map_set,List.map_set]
 rw [e]
 exact aVr h2 hj
def aPt (s:XS) (sz:Nat) (v:XV) (K:XS->Option R):XV->Option R
 | .ptr h off=>aZb s sz v K h off
 | .pa h off j=>match s.lk h with
  | some (.box cs)=>match aKo cs off,sz with
   | some a,1=>match bBh a.k v with
    | some c=>gd? (j < a.n) (match aWg cs off j a c with
     | some cs'=>K (s.setBlk h (some (.box cs')))
     | none=>none)
    | none=>none
   | none,sz=>aZb s sz v K h (off + j)
   | _,_=>none
  | _=>none
 | .epa h t ix off j=>match s.lk h with
  | some (.row true t' xs)=>match t'.beq t,sz with
   | true,1=>gn? xs ix fun e=>match aKo (lvs t' e) off with
    | some a=>match bBh a.k v with
     | some c=>gd? (j < a.n) (match aWg (lvs t' e) off j a c with
      | some l=>match pkD t' l with
       | some (y,[])=>K (s.setBlk h (some (.row true t' (xs.set ix y))))
       | _=>none
      | none=>none)
     | none=>none
    | none=>none
   | _,_=>none
  | _=>none
 | .ept h t ix off=>match s.lk h with
  | some (.row true t' xs)=>match t'.beq t,rG v with
   | true,some ys=>match Nat.beq (szL ys) sz,(Nat.beq sz 1 || !(Nat.beq t'.n 1)) with
    | true,true=>gn? xs ix fun e=>match aOr (lvs t' e) off ys sz with
     | some l=>match pkD t' l with
      | some (y,[])=>K (s.setBlk h (some (.row true t' (xs.set ix y))))
      | _=>none
     | none=>none
    | _,_=>none
   | _,_=>none
  | _=>none
 | .apt h ix=>match s.lk h with
  | some (.arr true n k x)=>match sz with
   | 1=>match v with
    | .d t c=>match t.cst (.i k) c with
     | some c=>gd? (ix < n) (K (s.setBlk h (some (.arr true n k (x.set ix c)))))
     | none=>none
    | _=>none
   | sz=>match ix,v with
    | 0,.d t y=>match t.cst (.ar n k) y,Nat.beq sz n with
     | some y,true=>K (s.setBlk h (some (.arr true n k y)))
     | _,_=>none
    | 0,.agg [.d t y]=>match t.cst (.ar n k) y,Nat.beq sz n with
     | some y,true=>K (s.setBlk h (some (.arr true n k y)))
     | _,_=>none
    | ix,v=>match unA v with
     | .d t y=>match t.cst (.ar sz k) y with
      | some y=>gd? (ix + sz <= n) (K (s.setBlk h (some (.arr true n k (x.put ix y.l)))))
      | none=>none
     | _=>none
  | _=>none
 | _=>none
theorem xD {n:Nat} {k:IntKind} {y:Arr n}:(AV.agg (((Ty.ar n k).ds y).map .D)).cells?=some (((Ty.ar n k).ds y).map .D):=by
 show (if AV.allOne (((Ty.ar n k).ds y).map .D)=true then some (((Ty.ar n k).ds y).map AV.D) else none)=_
 rw [if_pos (rI _ _)]
theorem aE9 [YL] {s:XS} {hd:Hd} {n:Nat} {k:IntKind} {x y:Arr n} {sz:Nat} {xo:Operand} {KP:AState->Prop} (hl:s.lk hd=some (.arr true n k x)) (h1:sz ≠ 1) (hb:sz=n) (hc:(s.er.ev xo).cells?=some (((Ty.ar n k).ds y).map .D))
  (hK:KP (s.setBlk hd (some (.arr true n k y))).er):oK s.er sz (s.er.ev xo) KP (.eptr hd 1 0 0):=by
 have e1:=x.len
 have e2:=y.len
 refine .inr ⟨rfl,rfl,h1,x.l.map (arD k),_,(Ty.ar n k).ds y,by rw [aS,hl];rfl,hc,wG _,by rw [Ty.ds_len];exact hb.symm,by rw [List.length_map];omega,?_⟩
 have e:(x.l.map (arD k)).take 0 ++ (((Ty.ar n k).ds y).map fun d=>[d]) ++ (x.l.map (arD k)).drop (0 + sz)=y.l.map (arD k):=by
  rw [List.take_zero,List.nil_append,List.drop_eq_nil_of_le (by rw [List.length_map];omega),List.append_nil]
  show ((y.l.map (DV.I k)).map fun d=>[d])=_
  rw [List.map_map];rfl
 rw [e]
 rw [aZ hl] at hK
 exact hK
theorem aSb [YL] {s:XS} {sz:Nat} {xo:Operand} {v:XV} {hd:Hd} {off:Nat} {K:XS->Option R} {r:R} (hv:s.er.ev xo=v.er) (h:aZb s sz v K hd off=some r) {KP:AState->Prop} (hK:∀ s',K s'=some r->KP s'.er):oK s.er sz (s.er.ev xo) KP (.ptr hd off):=by
 unfold aZb at h
 split at h
 ·rename_i cs hl
  split at h
  ·rename_i ys hy
   split at h
   ·rename_i hb
    split at h
    ·rename_i cs' hu
     obtain ⟨h1,h2⟩:=yE hu
     have:=hK _ h
     rw [aZ hl] at this
     refine ⟨XV.fcL cs,XV.fcL ys,by rw [aS,hl];rfl,by rw [hv];exact oC hy,by rw [aEe];exact Nat.eq_of_beq_eq_true hb,h1,?_⟩
     rw [<- h2];exact this
    ·cases h
   ·cases h
  ·cases h
 ·cases h
theorem aT9 [YL] {s:XS} {sz:Nat} {xo:Operand} {v a:XV} {K:XS->Option R} {r:R} (hv:s.er.ev xo=v.er) (h:aPt s sz v K a=some r) {KP:AState->Prop} (hK:∀ s',K s'=some r->KP s'.er):oK s.er sz (s.er.ev xo) KP a.er:=by
 unfold aPt at h
 split at h
 ·exact aSb hv h hK
 ·rename_i hd off j
  split at h
  ·rename_i cs hl
   split at h
   ·rename_i a ha
    split at h
    ·rename_i c hc
     obtain ⟨hj,h⟩:=bN h
     split at h
     ·rename_i cs' hs
      obtain ⟨h1,h2⟩:=aNm ha hj hs
      have:=hK _ h
      rw [aZ hl] at this
      have e:s.er.ev xo=.D (.I a.k c):=by rw [hv];exact aQw hc
      refine ⟨XV.fcL cs,[.D (.I a.k c)],by rw [aS,hl];rfl,by rw [e];rfl,rfl,by omega,?_⟩
      rw [aVs h1,<- h2];exact this
     ·cases h
    ·cases h
   ·exact aSb hv h hK
   ·cases h
  ·cases h
 ·rename_i hd t ix off j
  split at h
  ·rename_i t' xs hl
   split at h
   ·rename_i hb
    obtain rfl:=Ty.eq_of hb
    replace h:=aMi h
    obtain ⟨e,he,h⟩:=h
    split at h
    ·rename_i a ha
     split at h
     ·rename_i c hc
      obtain ⟨hj,h⟩:=bN h
      split at h
      ·rename_i l hs
       split at h
       ·rename_i y hp
        obtain ⟨h1,h2⟩:=aNm ha hj hs
        obtain ⟨l1,e1,e2⟩:=tW hp
        rw [List.append_nil] at e1
        subst e1
        rw [hU] at h1 h2
        rw [List.length_map] at h1
        have hds:t'.ds y=(t'.ds e).set (off + j) (.I a.k c):=by
         have h3:(t'.ds y).map AV.D=((t'.ds e).set (off + j) (.I a.k c)).map AV.D:=by rw [<- e2,h2,List.map_set]
         exact zT h3
        have ev:s.er.ev xo=.D (.I a.k c):=by rw [hv];exact aQw hc
        refine .inl ⟨.inr rfl,xs.map t'.ds,t'.ds e,[.D (.I a.k c)],[.I a.k c],by rw [aS,hl];rfl,by rw [List.getElem?_map,he];rfl,by rw [ev];rfl,rfl,rfl,by omega,?_⟩
        have:=hK _ h
        rw [aZ hl] at this
        rw [aVs h1,<- hds]
        have e3:(xs.map t'.ds).set ix (t'.ds y)=(xs.set ix y).map t'.ds:=by rw [List.map_set]
        rw [e3];exact this
       ·cases h
      ·cases h
     ·cases h
    ·cases h
   ·cases h
  ·cases h
 ·rename_i hd t ix off
  split at h
  ·rename_i t' xs hl
   split at h
   ·rename_i ys hb hy
    obtain rfl:=Ty.eq_of hb
    split at h
    ·rename_i hb1 hb2
     replace h:=aMi h
     obtain ⟨e,he,h⟩:=h
     split at h
     ·rename_i l hu
      split at h
      ·rename_i y hp
       obtain ⟨h1,h2⟩:=yE hu
       obtain ⟨l1,e1,e2⟩:=tW hp
       rw [List.append_nil] at e1
       subst e1
       rw [hU] at h1 h2
       rw [List.length_map] at h1
       have hsz:=Nat.eq_of_beq_eq_true hb1
       have hlen:(XV.fcL ys).length=sz:=by rw [aEe];exact hsz
       have hys:XV.fcL ys=(((t'.ds y).drop off).take sz).map .D:=by
        have:(((XV.fcL l).drop off).take sz)=XV.fcL ys:=by
         rw [h2,List.append_assoc,List.drop_append_of_le_length (by rw [List.length_take,List.length_map];omega),List.drop_eq_nil_of_le (by rw [List.length_take,List.length_map];omega),List.nil_append,List.take_append_of_le_length (by omega),List.take_of_length_le (by omega)]
        rw [<- this,e2,List.map_take,List.map_drop]
       have hds:t'.ds y=(t'.ds e).take off ++ ((t'.ds y).drop off).take sz ++ (t'.ds e).drop (off + sz):=by
        have h3:(t'.ds y).map AV.D=((t'.ds e).take off ++ ((t'.ds y).drop off).take sz ++ (t'.ds e).drop (off + sz)).map AV.D:=by
         rw [List.map_append,List.map_append,<- hys,List.map_take,List.map_drop,<- h2,e2]
        have:=congrArg AV.data h3
        rwa [wG,wG,Option.some.injEq] at this
       refine .inl ⟨?_,xs.map t'.ds,t'.ds e,XV.fcL ys,((t'.ds y).drop off).take sz,by rw [aS,hl];rfl,by rw [List.getElem?_map,he];rfl,by rw [hv];exact oC hy,by rw [hys];exact wG _,?_,h1,?_⟩
       ·rw [Bool.or_eq_true] at hb2
        rcases hb2 with hb2 | hb2
        ·exact .inr (Nat.eq_of_beq_eq_true hb2)
        ·exact .inl fun e=>by rw [e] at hb2;cases hb2
       ·have:=congrArg List.length hys
        rw [List.length_map,hlen] at this
        exact this.symm
       ·have:=hK _ h
        rw [aZ hl] at this
        rw [<- hds]
        have e3:(xs.map t'.ds).set ix (t'.ds y)=(xs.set ix y).map t'.ds:=by rw [List.map_set]
        rw [e3];exact this
      ·cases h
     ·cases h
    ·cases h
   ·cases h
  ·cases h
 ·rename_i hd ix
  split at h
  ·rename_i n k x hl
   split at h
   ·split at h
    ·rename_i t c
     split at h
     ·rename_i c' hc
      obtain ⟨e,rfl⟩:=Ty.cst_ok hc
      subst e
      obtain ⟨h1,h⟩:=bN h
      have e1:=x.len
      refine .inl ⟨.inr rfl,x.l.map (arD k),arD k (x.l[ix]'(by omega)),[.D (.I k c)],[.I k c],by rw [aS,hl];rfl,by rw [List.getElem?_map,List.getElem?_eq_getElem (by omega)];rfl,by rw [hv];rfl,rfl,rfl,Nat.le_refl _,?_⟩
      have:=hK _ h
      rw [aZ hl] at this
      have e3:(x.l.map (arD k)).set ix ((arD k (x.l[ix]'(by omega))).take 0 ++ [.I k c] ++ (arD k (x.l[ix]'(by omega))).drop (0 + 1))=(x.set ix c).l.map (arD k):=by
       rw [Arr.l_set,List.map_set];rfl
      rw [e3];exact this
     ·cases h
    ·cases h
   ·rename_i h1
    split at h
    ·rename_i t y
     split at h
     ·rename_i y' hy hb
      obtain ⟨e,rfl⟩:=Ty.cst_ok hy
      subst e
      exact aE9 hl h1 (Nat.eq_of_beq_eq_true hb) (by rw [hv];exact xD) (hK _ h)
     ·cases h
    ·rename_i t y
     split at h
     ·rename_i y' hy hb
      obtain ⟨e,rfl⟩:=Ty.cst_ok hy
      subst e
      exact aE9 hl h1 (Nat.eq_of_beq_eq_true hb) (by
       rw [hv]
       show (AV.agg (((Ty.ar n k).ds _).map AV.D ++ [])).cells?=_
       rw [List.append_nil];exact xD) (hK _ h)
     ·cases h
    ·split at h
     ·rename_i t y hu
      split at h
      ·rename_i y' hy
       obtain ⟨e,rfl⟩:=Ty.cst_ok hy
       subst e
       obtain ⟨h2,h⟩:=bN h
       have e1:=x.len
       refine .inr ⟨rfl,rfl,h1,x.l.map (arD k),_,(Ty.ar sz k).ds y,by rw [aS,hl];rfl,by rw [hv,<- aJr,hu];exact xD,wG _,by rw [Ty.ds_len];rfl,by rw [List.length_map,e1];exact h2,?_⟩
       have:=hK _ h
       rw [aZ hl] at this
       have e3:(x.l.map (arD k)).take ix ++ (((Ty.ar sz k).ds y).map fun d=>[d]) ++ (x.l.map (arD k)).drop (ix + sz)=(x.put ix y.l).l.map (arD k):=by
        rw [Arr.l_put (by rw [y.len];exact h2),List.map_append,List.map_append,List.map_take,List.map_drop,y.len]
        congr 2
        show ((y.l.map (DV.I k)).map fun d=>[d])=_
        rw [List.map_map];rfl
       rw [e3];exact this
      ·cases h
     ·cases h
  ·cases h
 ·cases h

def bE1:List XV->Bool
 | []=>true
 | .d _ _ :: l=>bE1 l
 | .nl _ :: l=>bE1 l
 | _ :: _=>false
def bGi (v a:XV):Bool:=match a with
 | .ept _ _ _ _=>match rG v with
  | some ys=>!(bE1 ys)
  | none=>false
 | _=>false
def bF9 (s s1:XS) (sz:Nat) (v:XV) (K:XS->Option R) (h:Hd) (t:Ty) (ix off:Nat):Option R:=match s1.lk h with
 | some (.row true t' xs)=>match t'.beq t,rG v with
  | true,some ys=>match Nat.beq (szL ys) sz,(Nat.beq sz 1 || !(Nat.beq t'.n 1)) with
   | true,true=>gn? xs ix fun e=>match aOr (lvs t' e) off ys sz with
    | some l=>pkC s t' l fun y rest=>match rest with
     | []=>K (s1.setBlk h (some (.row true t' (xs.set ix y))))
     | _ :: _=>none
    | none=>none
   | _,_=>none
  | _,_=>none
 | _=>none
def aJf (s:XS) (sz:Nat) (v:XV) (K:XS->Option R):XV->Option R
 | .ept h t ix off=>bF9 s (s.put none .un [] (xfz s v.hr)) sz v K h t ix off
 | _=>none
theorem aN7 {lk:aH} {φ:Hd->Option Hd} {a:AV} {cs:List AV} {ds:List DV} (h:a.cells?=some cs) (hc:AV.convL lk φ cs=ds.map .D) (ho:AV.allOne (ds.map .D)=true):(AV.conv lk φ a).cells?=some (ds.map .D):=by
 have key:∀ a:AV,(∀ l,a ≠ .agg l)->a.cells?=some cs->(AV.conv lk φ a).cells?=some (ds.map .D):=fun a hn h=>by
  have h1:cs=[a]:=by
   unfold AV.cells? at h
   split at h
   ·exact absurd rfl (hn _)
   ·split at h
    ·cases h;rfl
    ·cases h
  subst h1
  have hc:[AV.conv lk φ a]=ds.map .D:=hc
  cases ds with
  | nil=>cases hc
  | cons d ds =>
   cases ds with
   | cons _ _=>exact absurd (congrArg List.length hc) (by simp)
   | nil =>
    have hc:AV.conv lk φ a=.D d:=(List.cons.inj hc).1
    rw [hc]
    have ho:(AV.one (.D d) && true)=true:=ho
    rw [Bool.and_true] at ho
    show (if AV.one (.D d)=true then some [AV.D d] else none)=_
    rw [if_pos ho];rfl
 cases a with
 | agg l =>
  have h:(if AV.allOne l=true then some l else none)=some cs:=h
  split at h
  ·have e:l=cs:=Option.some.inj h
   rw [<- e] at hc
   show (if AV.allOne (AV.convL lk φ l)=true then some (AV.convL lk φ l) else none)=_
   rw [hc,if_pos ho]
  ·cases h
 | _=>exact key _ (fun _=>AV.noConfusion) h
theorem aAb (lk:aH) (φ:Hd->Option Hd):∀ l:List AV,(AV.convL lk φ l).length=l.length
 | []=>rfl
 | x :: l=>by show (AV.convL lk φ l).length + 1=_;rw [aAb lk φ l];rfl
theorem aPa [YL] {s:XS} {sz:Nat} {xo:Operand} {v a:XV} {K:XS->Option R} {r:R} (hv:s.er.ev xo=v.er) (h:aJf s sz v K a=some r) {KP:AState->Prop} (hK:∀ s',K s'=some r->KP s'.er) :
  oK (s.er.put none AV.un [] (fzL s.er.lk (AV.rows (s.er.ev xo)))) sz (AV.conv s.er.lk (fun _=>none) (s.er.ev xo)) KP a.er:=by
 unfold aJf at h
 split at h
 ·rename_i hd t ix off
  have hs1:s.er.put none AV.un [] (fzL s.er.lk (AV.rows (s.er.ev xo)))=(s.put none .un [] (xfz s v.hr)).er:=by
   rw [cG,hv,aCs,oO];rfl
  rw [hs1,hv]
  revert h
  generalize s.put none .un [] (xfz s v.hr)=s1
  intro h
  unfold bF9 at h
  split at h
  ·rename_i t' xs hl
   split at h
   ·rename_i ys hb hy
    obtain rfl:=Ty.eq_of hb
    split at h
    ·rename_i hb1 hb2
     replace h:=aMi h
     obtain ⟨e,he,h⟩:=h
     split at h
     ·rename_i l hu
      obtain ⟨y,l1,l2,rfl,h,ec⟩:=aWb (φ:=fun _=>none) (fun _ _ _=>rfl) h
      split at h
      ·obtain ⟨h1,h2⟩:=yE hu
       rw [List.append_nil] at h2
       rw [hU] at h1 h2
       rw [List.length_map] at h1
       have hsz:=Nat.eq_of_beq_eq_true hb1
       have hlen:(XV.fcL ys).length=sz:=by rw [aEe];exact hsz
       have hC:((t'.ds e).take off).map AV.D ++ AV.convL s.er.lk (fun _=>none) (XV.fcL ys) ++ ((t'.ds e).drop (off + sz)).map AV.D=(t'.ds y).map .D:=by
        rw [<- ec,h2,qT,qT,<- List.map_take,<- List.map_drop,yH,yH]
       have hcl:(AV.convL s.er.lk (fun _=>none) (XV.fcL ys)).length=sz:=by rw [aAb,hlen]
       have hys:AV.convL s.er.lk (fun _=>none) (XV.fcL ys)=(((t'.ds y).drop off).take sz).map .D:=by
        rw [List.map_take,List.map_drop,<- hC,List.append_assoc,List.drop_append_of_le_length (by rw [List.length_map,List.length_take];omega),List.drop_eq_nil_of_le (by rw [List.length_map,List.length_take];omega),List.nil_append,List.take_append_of_le_length (by omega),List.take_of_length_le (by omega)]
       have hds:t'.ds y=(t'.ds e).take off ++ ((t'.ds y).drop off).take sz ++ (t'.ds e).drop (off + sz):=by
        have h3:(t'.ds y).map AV.D=((t'.ds e).take off ++ ((t'.ds y).drop off).take sz ++ (t'.ds e).drop (off + sz)).map AV.D:=by
         rw [List.map_append,List.map_append,<- hys,hC]
        have:=congrArg AV.data h3
        rwa [wG,wG,Option.some.injEq] at this
       have hone:AV.allOne ((((t'.ds y).drop off).take sz).map .D)=true:=by
        have h4:=rI t' y
        have h6:(t'.ds y).map AV.D=((t'.ds e).take off).map AV.D ++ (((t'.ds y).drop off).take sz).map AV.D ++ ((t'.ds e).drop (off + sz)).map AV.D:=by rw [<- List.map_append,<- List.map_append,<- hds]
        rw [h6,yB,yB,Bool.and_eq_true,Bool.and_eq_true] at h4
        exact h4.1.2
       refine .inl ⟨?_,xs.map t'.ds,t'.ds e,(((t'.ds y).drop off).take sz).map .D,((t'.ds y).drop off).take sz,by rw [aS,hl];rfl,by rw [List.getElem?_map,he];rfl,aN7 (oC hy) hys hone,wG _,?_,h1,?_⟩
       ·rw [Bool.or_eq_true] at hb2
        rcases hb2 with hb2 | hb2
        ·exact .inr (Nat.eq_of_beq_eq_true hb2)
        ·exact .inl fun e=>by rw [e] at hb2;cases hb2
       ·have:=congrArg List.length hys
        rw [List.length_map,hcl] at this
        exact this.symm
       ·have:=hK _ h
        rw [aZ hl] at this
        rw [<- hds]
        have e3:(xs.map t'.ds).set ix (t'.ds y)=(xs.set ix y).map t'.ds:=by rw [List.map_set]
        rw [e3];exact this
      ·cases h
     ·cases h
    ·cases h
   ·cases h
  ·cases h
 ·cases h
end Go.Eng

namespace Go.Eng
open Go.RowKit
variable {R:Type}

def pW (s:XS) (t:Ty) (v:XV) (K:List t.T->Option R):Option R:=match v with
 | .d .s b=>match (Ty.sl (.i .u8)).cst (.sl t) (aR8 b) with
  | some y=>K y
  | none=>none
 | v=>nC s (.sl t) v K
theorem lT [YL] {s:XS} {t:Ty} {v:XV} {K:List t.T->Option R} {r:R} (h:pW s t v K=some r):∃ xs:List t.T,K xs=some r/\AV.content s.er.lk v.er=some (xs.map t.ds):=by
 unfold pW at h
 split at h
 ·rename_i b
  split at h
  ·rename_i y hy
   obtain ⟨e,rfl⟩:=Ty.cst_ok hy
   cases e
   refine ⟨_,h,?_⟩
   show some (b.map fun c=>[DV.I .u8 c.toNat])=_
   simp only [aR8,List.map_map]
   rfl
  ·cases h
 ·obtain ⟨xs,h,h1,_⟩:=aCg h
  exact ⟨xs,h,h1⟩
def bHk (s:XS) (t:Ty) (xs:List t.T) (k bytes:Nat) (y:XV) (K:XV->List XB->List Hd->Option R):Option R:=match Nat.beq t.n k with
 | true=>pW s t y fun ys=>match xs,ys with
  | [],ys=>gd? (ys.length * bytes <= 140737488355328) (K (.slw (.O s.own.length) t ys.length) [.row true t ys] (xfz s y.hr))
  | xs,y0 :: yr=>gd? ((xs.length + (y0 :: yr).length) * bytes <= 140737488355328) (K (.slw (.O s.own.length) t (xs ++ y0 :: yr).length) [.row true t (xs ++ y0 :: yr)] (xfz s y.hr))
  | _,_=>none
 | false=>none
def aDm (s:XS) (ty:Option Ty) (k bytes:Nat) (y:XV) (dst:Option Nat) (K:XS->Option R):XV->Option R
 | .slw h t len=>match s.lk h with
  | some (.row mt t' xs)=>match t'.beq t,Nat.beq t'.n k with
   | true,true=>gl? len xs (pW s t' y fun ys=>gd? ((xs.length + ys.length) * bytes <= 140737488355328) (K ((s.setBlk h none).put dst (.slw (.O s.own.length) t' (xs ++ ys).length) [.row mt t' (xs ++ ys)] [])))
   | _,_=>none
  | _=>none
 | .fln _=>match elT ty,dst with
  | some t,some d=>match Nat.beq t.n k with
   | true=>pW s t y fun ys=>gd? (ys.length * bytes <= 140737488355328) (K (s.put (some d) (.slw (.O s.own.length) t ys.length) [.row true t ys] (xfz s y.hr)))
   | false=>none
  | _,_=>none
 | .fl t xs=>match Nat.beq t.n k,dst with
  | true,some d=>pW s t y fun ys=>match ys with
   | []=>none
   | y0 :: yr=>gd? ((xs.length + (y0 :: yr).length) * bytes <= 140737488355328) (K (s.put (some d) (.slw (.O s.own.length) t (xs ++ y0 :: yr).length) [.row true t (xs ++ y0 :: yr)] (xfz s y.hr)))
  | _,_=>none
 | _=>none
theorem aFz [YL] {s:XS} {ty:Option Ty} {k bytes:Nat} {yo:Operand} {y a:XV} {dst:Option Nat} {K:XS->Option R} {r:R} (hy:s.er.ev yo=y.er) (h:aDm s ty k bytes y dst K a=some r) {KP:AState->Prop} (hK:∀ s',K s'=some r->KP s'.er):pQ s.er k bytes yo dst KP a.er:=by
 unfold aDm at h
 split at h
 ·rename_i hd t len
  split at h
  ·rename_i mt t' xs hl
   split at h
   ·rename_i hb hb2
    obtain rfl:=Ty.eq_of hb
    have hk:=Nat.eq_of_beq_eq_true hb2
    replace h:=aUj h
    obtain ⟨rfl,h⟩:=h
    obtain ⟨ys,h,hc⟩:=lT h
    obtain ⟨hsz,h⟩:=bN h
    refine ⟨hk,rfl,mt,xs.map t'.ds,ys.map t'.ds,by rw [aS,hl,<- hk];rfl,by rw [List.length_map],by rw [hy];exact hc,hk ▸ sV t' xs,hk ▸ sV t' ys,aXs t' ys,by rw [List.length_map];exact hsz,?_⟩
    have:=hK _ h
    rw [cG,aZ hl] at this
    have e:(XV.slw (.O s.own.length) t' (xs ++ ys).length).er=.sl (.O s.own.length) k 0 (xs.length + (ys.map t'.ds).length):=by
     show AV.sl (.O s.own.length) t'.n 0 (xs ++ ys).length=_
     rw [hk,List.length_append,List.length_map]
    rw [e] at this
    have e2:([XB.row mt t' (xs ++ ys)].map XB.er)=[Blk.row mt k (xs.map t'.ds ++ ys.map t'.ds)]:=by
     show [Blk.row mt t'.n ((xs ++ ys).map t'.ds)]=_
     rw [hk,List.map_append]
    rw [e2] at this
    exact this
   ·cases h
  ·cases h
 ·split at h
  ·rename_i t d _
   split at h
   ·rename_i hb
    have hk:=Nat.eq_of_beq_eq_true hb
    obtain ⟨ys,h,hc⟩:=lT h
    obtain ⟨hsz,h⟩:=bN h
    refine ⟨rfl,ys.map t.ds,by rw [hy];exact hc,hk ▸ sV t ys,by rw [List.length_map];exact hsz,?_⟩
    have:=hK _ h
    rw [cG] at this
    have e:(XV.slw (.O s.own.length) t ys.length).er=.sl (.O s.own.length) k 0 (ys.map t.ds).length:=by
     show AV.sl (.O s.own.length) t.n 0 ys.length=_
     rw [hk,List.length_map]
    rw [e] at this
    have e2:([XB.row true t ys].map XB.er)=[Blk.row true k (ys.map t.ds)]:=by
     show [Blk.row true t.n (ys.map t.ds)]=_
     rw [hk]
    rw [e2] at this
    rw [hy,aCs,oO]
    exact this
   ·cases h
  ·cases h
 ·rename_i t xs
  split at h
  ·rename_i d hb
   have hk:=Nat.eq_of_beq_eq_true hb
   obtain ⟨ys,h,hc⟩:=lT h
   split at h
   ·cases h
   ·rename_i y0 yr
    obtain ⟨hsz,h⟩:=bN h
    have:=hK _ h
    rw [cG] at this
    have e2:([XB.row true t (xs ++ y0 :: yr)].map XB.er)=[Blk.row true k (xs.map t.ds ++ (y0 :: yr).map t.ds)]:=by
     show [Blk.row true t.n ((xs ++ y0 :: yr).map t.ds)]=_
     rw [hk,List.map_append]
    have e:(XV.slw (.O s.own.length) t (xs ++ y0 :: yr).length).er=.sl (.O s.own.length) k 0 (xs.length + (y0 :: yr).length):=by
     show AV.sl (.O s.own.length) t.n 0 (xs ++ y0 :: yr).length=_
     rw [hk,List.length_append]
    rw [e,e2,show s.own.length=s.er.nx from rfl] at this
    cases xs with
    | nil =>
     refine ⟨rfl,(y0 :: yr).map t.ds,by rw [hy];exact hc,hk ▸ sV t _,by rw [List.length_map];simpa using hsz,?_⟩
     rw [hy,aCs,oO,List.length_map]
     simpa using this
    | cons x0 xr =>
     refine ⟨(y0 :: yr).map t.ds,by rw [hy];exact hc,hk ▸ sV t (x0 :: xr),hk ▸ sV t _,by simpa using hsz,?_⟩
     rw [if_neg (by simp),hy,aCs,oO]
     simpa using this
  ·cases h
 ·cases h
def bFp (s:XS) (ty:Option Ty) (k bytes:Nat) (y:XV) (K:XV->List XB->List Hd->Option R):XV->Option R
 | .fln _=>match elT ty with
  | some t=>match Nat.beq t.n k with
   | true=>pW s t y fun ys=>gd? (ys.length * bytes <= 140737488355328) (K (.slw (.O s.own.length) t ys.length) [.row true t ys] (xfz s y.hr))
   | false=>none
  | none=>none
 | .fl t xs=>match Nat.beq t.n k with
  | true=>pW s t y fun ys=>match ys with
   | []=>none
   | y0 :: yr=>gd? ((xs.length + (y0 :: yr).length) * bytes <= 140737488355328) (K (.slw (.O s.own.length) t (xs ++ y0 :: yr).length) [.row true t (xs ++ y0 :: yr)] (xfz s y.hr))
  | false=>none
 | _=>none
theorem aZ6 [YL] {s:XS} {ty:Option Ty} {k bytes:Nat} {yo:Operand} {y a:XV} {K:XV->List XB->List Hd->Option R} {r:R} (hy:s.er.ev yo=y.er) (h:bFp s ty k bytes y K a=some r) {KP:AV->List Blk->List Hd->Prop} (hK:∀ v nbs fz,K v nbs fz=some r->KP v.er (nbs.map XB.er) fz) :
  ∃ es,a.er=.fl es/\∃ ys,AV.content s.er.lk (s.er.ev yo)=some ys/\Uni k es/\Uni k ys/\(es.length + ys.length) * bytes <= 140737488355328 /\
   (if ys=[]/\es ≠ [] then KP (.fl es) [] [] else KP (.sl (.O s.er.nx) k 0 (es.length + ys.length)) [.row true k (es ++ ys)] (fzL s.er.lk (AV.rows (s.er.ev yo)))):=by
 unfold bFp at h
 split at h
 ·split at h
  ·rename_i t _
   split at h
   ·rename_i hb
    have hk:=Nat.eq_of_beq_eq_true hb
    obtain ⟨ys,h,hc⟩:=lT h
    obtain ⟨hsz,h⟩:=bN h
    refine ⟨[],rfl,ys.map t.ds,by rw [hy];exact hc,fun _ h=>(by cases h),hk ▸ sV t ys,by rw [List.length_map];simpa using hsz,?_⟩
    rw [if_neg (fun h=>h.2 rfl),hy,aCs,oO]
    have:=hK _ _ _ h
    have e:(XV.slw (.O s.own.length) t ys.length).er=.sl (.O s.own.length) k 0 (([]:List (List DV)).length + (ys.map t.ds).length):=by
     show AV.sl (.O s.own.length) t.n 0 ys.length=_
     rw [hk,List.length_map,List.length_nil,Nat.zero_add]
    rw [e] at this
    have e2:([XB.row true t ys].map XB.er)=[Blk.row true k ([] ++ ys.map t.ds)]:=by
     show [Blk.row true t.n (ys.map t.ds)]=_
     rw [hk];rfl
    rw [e2] at this
    exact this
   ·cases h
  ·cases h
 ·rename_i t xs
  split at h
  ·rename_i hb
   have hk:=Nat.eq_of_beq_eq_true hb
   obtain ⟨ys,h,hc⟩:=lT h
   split at h
   ·cases h
   ·rename_i y0 yr
    obtain ⟨hsz,h⟩:=bN h
    refine ⟨xs.map t.ds,rfl,(y0 :: yr).map t.ds,by rw [hy];exact hc,hk ▸ sV t xs,hk ▸ sV t (y0 :: yr),by rw [List.length_map,List.length_map];exact hsz,?_⟩
    rw [if_neg (fun h=>by cases h.1),hy,aCs,oO]
    have:=hK _ _ _ h
    have e:(XV.slw (.O s.own.length) t (xs ++ y0 :: yr).length).er=.sl (.O s.own.length) k 0 ((xs.map t.ds).length + ((y0 :: yr).map t.ds).length):=by
     show AV.sl (.O s.own.length) t.n 0 (xs ++ y0 :: yr).length=_
     rw [hk,List.length_map,List.length_map,List.length_append]
    rw [e] at this
    have e2:([XB.row true t (xs ++ y0 :: yr)].map XB.er)=[Blk.row true k (xs.map t.ds ++ (y0 :: yr).map t.ds)]:=by
     show [Blk.row true t.n ((xs ++ y0 :: yr).map t.ds)]=_
     rw [hk,List.map_append]
    rw [e2] at this
    exact this
  ·cases h
 ·cases h

def aZt {α:Type} (xs:List α) (off len:Nat) (ys:List α):List α:=xs.take off ++ ys.take (min ys.length len) ++ xs.drop (off + min ys.length len)
def aJo (s:XS) (k:Nat) (vy:XV) (dst:Option Nat) (K:XS->Option R) (h:Hd) (t:Ty) (off len:Nat):Option R:=match s.lk h with
 | some (.row true t' xs)=>match t'.beq t,Nat.beq t'.n k with
  | true,true=>gd? (off + len <= xs.length) (pW s t' vy fun ys=>K ((s.setBlk h (some (.row true t' (aZt xs off len ys)))).put dst (.d (.i .i64) (min ys.length len:Nat)) [] []))
  | _,_=>none
 | _=>none
def aUx (s:XS) (k:Nat) (vy:XV) (dst:Option Nat) (K:XS->Option R):XV->Option R
 | .slw h t len=>aJo s k vy dst K h t 0 len
 | .sl h t off len=>aJo s k vy dst K h t off len
 | .asl h off len=>match s.lk h with
  | some (.arr true n kd x)=>match Nat.beq 1 k with
   | true=>gd? (off + len <= n) (pW s (.i kd) vy fun ys=>K ((s.setBlk h (some (.arr true n kd (x.put off (ys.take (min ys.length len)))))).put dst (.d (.i .i64) (min ys.length len:Nat)) [] []))
   | false=>none
  | _=>none
 | _=>none
theorem aG9 [YL] {s:XS} {k:Nat} {yo:Operand} {vy:XV} {dst:Option Nat} {K:XS->Option R} {r:R} {hd:Hd} {t:Ty} {off len:Nat} (hy:s.er.ev yo=vy.er) (h:aJo s k vy dst K hd t off len=some r) {KP:AState->Prop} (hK:∀ s',K s'=some r->KP s'.er):aIa s.er k yo dst KP (.sl hd t.n off len):=by
 unfold aJo at h
 split at h
 ·rename_i t' xs hl
  split at h
  ·rename_i hb hb2
   obtain rfl:=Ty.eq_of hb
   have hk:=Nat.eq_of_beq_eq_true hb2
   obtain ⟨h1,h⟩:=bN h
   obtain ⟨ys,h,hc⟩:=lT h
   refine ⟨hk,xs.map t'.ds,ys.map t'.ds,by rw [aS,hl,<- hk];rfl,by rw [List.length_map];exact h1,by rw [hy];exact hc,hk ▸ sV t' ys,by rw [<- List.map_take];exact aXs t' _,?_⟩
   have:=hK _ h
   rw [cG,aZ hl] at this
   have e:(some (XB.row true t' (aZt xs off len ys))).map XB.er=some (.row true k ((xs.map t'.ds).take off ++ (ys.map t'.ds).take (min (ys.map t'.ds).length len) ++ (xs.map t'.ds).drop (off + min (ys.map t'.ds).length len))):=by
    show some (Blk.row true t'.n ((aZt xs off len ys).map t'.ds))=_
    unfold aZt
    rw [hk,List.map_append,List.map_append,List.map_take,List.map_take,List.map_drop,List.length_map]
   rw [e] at this
   have e2:(XV.d (.i .i64) ((min ys.length len:Nat):Int)).er=.D (.I .i64 (min (ys.map t'.ds).length len:Nat)):=by rw [List.length_map];rfl
   rw [e2] at this
   exact this
  ·cases h
 ·cases h
theorem aVo [YL] {s:XS} {k:Nat} {yo:Operand} {vy a:XV} {dst:Option Nat} {K:XS->Option R} {r:R} (hy:s.er.ev yo=vy.er) (h:aUx s k vy dst K a=some r) {KP:AState->Prop} (hK:∀ s',K s'=some r->KP s'.er):aIa s.er k yo dst KP a.er:=by
 unfold aUx at h
 split at h
 ·exact aG9 hy h hK
 ·exact aG9 hy h hK
 ·rename_i hd off len
  split at h
  ·rename_i n kd x hl
   split at h
   ·rename_i hb
    obtain rfl:=Nat.eq_of_beq_eq_true hb
    obtain ⟨h1,h⟩:=bN h
    obtain ⟨ys,h,hc⟩:=lT h
    refine ⟨rfl,x.l.map (arD kd),ys.map (Ty.i kd).ds,by rw [aS,hl];rfl,by rw [List.length_map,x.len];exact h1,by rw [hy];exact hc,sV (.i kd) ys,by rw [<- List.map_take];exact aXs (.i kd) _,?_⟩
    have:=hK _ h
    rw [cG,aZ hl] at this
    have hm:(ys.take (min ys.length len)).length=min ys.length len:=by rw [List.length_take];omega
    have e:(some (XB.arr true n kd (x.put off (ys.take (min ys.length len))))).map XB.er=some (.row true 1 ((x.l.map (arD kd)).take off ++ (ys.map (Ty.i kd).ds).take (min (ys.map (Ty.i kd).ds).length len) ++ (x.l.map (arD kd)).drop (off + min (ys.map (Ty.i kd).ds).length len))):=by
     show some (Blk.row true 1 ((x.put off (ys.take (min ys.length len))).l.map (arD kd)))=_
     rw [Arr.l_put (by rw [hm];omega),List.map_append,List.map_append,hm,List.map_take,List.map_take,List.map_drop,List.length_map]
     rfl
    rw [e] at this
    have e2:(XV.d (.i .i64) ((min ys.length len:Nat):Int)).er=.D (.I .i64 (min (ys.map (Ty.i kd).ds).length len:Nat)):=by rw [List.length_map];rfl
    rw [e2] at this
    exact this
   ·cases h
  ·cases h
 ·cases h
def aQ6 (s:XS) (k:Nat) (zs:List DV) (dst:Option Nat) (K:XS->Option R) (h:Hd) (t:Ty) (off len:Nat):Option R:=match s.lk h with
 | some (.row true t' xs)=>match t'.beq t,Nat.beq t'.n k,zeq (zs.map .D) ((t'.ds t'.z).map .D) with
  | true,true,true=>gd? (off + len <= xs.length) (K ((s.setBlk h (some (.row true t' (xs.take off ++ List.replicate len t'.z ++ xs.drop (off + len))))).put dst .any [] []))
  | _,_,_=>none
 | _=>none
def bE6 (s:XS) (k:Nat) (zs:List DV) (dst:Option Nat) (K:XS->Option R):XV->Option R
 | .slw h t len=>aQ6 s k zs dst K h t 0 len
 | .sl h t off len=>aQ6 s k zs dst K h t off len
 | _=>none
theorem aM0 [YL] {s:XS} {k:Nat} {zs:List DV} {dst:Option Nat} {K:XS->Option R} {r:R} {hd:Hd} {t:Ty} {off len:Nat} (h:aQ6 s k zs dst K hd t off len=some r) {KP:AState->Prop} (hK:∀ s',K s'=some r->KP s'.er):aBm s.er k zs dst KP (.sl hd t.n off len):=by
 unfold aQ6 at h
 split at h
 ·rename_i t' xs hl
  split at h
  ·rename_i hb hb2 hz
   obtain rfl:=Ty.eq_of hb
   have hk:=Nat.eq_of_beq_eq_true hb2
   have hz:=zT (aBj hz)
   obtain ⟨h1,h⟩:=bN h
   refine ⟨hk,xs.map t'.ds,by rw [aS,hl,<- hk];rfl,by rw [List.length_map];exact h1,?_⟩
   have:=hK _ h
   rw [cG,aZ hl] at this
   have e:(some (XB.row true t' (xs.take off ++ List.replicate len t'.z ++ xs.drop (off + len)))).map XB.er=some (.row true k ((xs.map t'.ds).take off ++ List.replicate len zs ++ (xs.map t'.ds).drop (off + len))):=by
    show some (Blk.row true t'.n ((xs.take off ++ List.replicate len t'.z ++ xs.drop (off + len)).map t'.ds))=_
    rw [hk,List.map_append,List.map_append,List.map_replicate,List.map_take,List.map_drop,hz]
   rw [e] at this
   exact this
  ·cases h
 ·cases h
theorem bBm [YL] {s:XS} {k:Nat} {zs:List DV} {a:XV} {dst:Option Nat} {K:XS->Option R} {r:R} (h:bE6 s k zs dst K a=some r) {KP:AState->Prop} (hK:∀ s',K s'=some r->KP s'.er):aBm s.er k zs dst KP a.er:=by
 unfold bE6 at h
 split at h
 ·exact aM0 h hK
 ·exact aM0 h hK
 ·cases h

theorem uT {wr:Bool} {K V:Ty} (hk:nJ K=true) (y:K.T) (v:V.T) (mv:MV) (hmv:mv=gT wr V v):∀ (es:List (K.T × V.T)) (hole:Option K.T) (r:Option (Nat × MV)),(hole=none\/hole=some y)->bW (aM K y) (aX wr K V es hole)=some r ->
  zE (aX wr K V es hole) r (aM K y) mv=aX wr K V (bY es y v) none
 | [],hole,r,_,h=>by
  cases h;subst hmv;rfl
 | e :: es,hole,r,hh,h=>by
  subst hmv
  have main:∀ (mv0:MV) (rest:List (AV × MV)),bW (aM K y) ((aM K e.1,mv0) :: rest)=some r->(e.1=y->rest=aX wr K V es none)->(e.1 ≠ y->mv0=gT wr V e.2/\∃ hole',rest=aX wr K V es hole'/\(hole'=none\/hole'=some y)) ->
    zE ((aM K e.1,mv0) :: rest) r (aM K y) (gT wr V v)=aX wr K V (bY (e :: es) y v) none:=fun mv0 rest hf h1 h2=>by
   unfold bW at hf
   rw [pH hk] at hf
   have hs:bY (e :: es) y v=if e.1=y then (y,v) :: es else e :: bY es y v:=rfl
   rw [hs]
   by_cases he:e.1=y
   ·rw [decide_eq_true he] at hf
    simp only [Option.some.injEq] at hf
    subst hf
    rw [if_pos he,h1 he];rfl
   ·rw [decide_eq_false he] at hf
    obtain ⟨rfl,hole',rfl,hh'⟩:=h2 he
    rw [if_neg he]
    simp only at hf
    split at hf
    ·rename_i j v0 hq
     cases hf
     have ih:=uT hk y v _ rfl es hole' _ hh' hq
     show (aM K e.1,gT wr V e.2) :: (aX wr K V es hole').set j (aM K y,gT wr V v)=(aM K e.1,gT wr V e.2) :: aX wr K V (bY es y v) none
     rw [<- ih];rfl
    ·rename_i hq
     cases hf
     have ih:=uT hk y v _ rfl es hole' _ hh' hq
     show (aM K e.1,gT wr V e.2) :: (aX wr K V es hole' ++ [(aM K y,gT wr V v)])=(aM K e.1,gT wr V e.2) :: aX wr K V (bY es y v) none
     rw [<- ih];rfl
    ·cases hf
  rcases hh with rfl | rfl
  ·exact main _ _ h (fun _=>rfl) (fun _=>⟨rfl,none,rfl,.inl rfl⟩)
  ·by_cases he:e.1=y
   ·have e2:aX wr K V (e :: es) (some y)=(aM K e.1,.v (aKd wr V e.2)) :: aX wr K V es none:=by
     show (if e.1=y then _ else _)=_
     rw [if_pos he]
    rw [e2] at h |-
    exact main _ _ h (fun _=>rfl) (fun hn=>absurd he hn)
   ·have e2:aX wr K V (e :: es) (some y)=(aM K e.1,gT wr V e.2) :: aX wr K V es (some y):=by
     show (if e.1=y then _ else _)=_
     rw [if_neg he]
    rw [e2] at h |-
    exact main _ _ h (fun hn=>absurd hn he) (fun _=>⟨rfl,some y,rfl,.inr rfl⟩)
theorem aBo {wr:Bool} {K V:Ty} (hk:nJ K=true) (y:K.T):∀ (es:List (K.T × V.T)) (r:Option (Nat × MV)),bW (aM K y) (aX wr K V es none)=some r ->
  (match r with | some (j,_)=>(aX wr K V es none).eraseIdx j | none=>aX wr K V es none)=aX wr K V (aKc es y) none
 | [],r,h=>by cases h;rfl
 | e :: es,r,h=>by
  have h:bW (aM K y) ((aM K e.1,gT wr V e.2) :: aX wr K V es none)=some r:=h
  unfold bW at h
  rw [pH hk] at h
  have hs:aKc (e :: es) y=if e.1=y then es else e :: aKc es y:=rfl
  rw [hs]
  by_cases he:e.1=y
  ·rw [decide_eq_true he] at h
   simp only [Option.some.injEq] at h
   subst h
   rw [if_pos he];rfl
  ·rw [decide_eq_false he] at h
   rw [if_neg he]
   simp only at h
   split at h
   ·rename_i j v0 hq
    cases h
    have ih:=aBo hk y es _ hq
    show (aM K e.1,gT wr V e.2) :: (aX wr K V es none).eraseIdx j=(aM K e.1,gT wr V e.2) :: aX wr K V (aKc es y) none
    rw [<- ih]
   ·rename_i hq
    cases h
    have ih:=aBo hk y es _ hq
    show (aM K e.1,gT wr V e.2) :: aX wr K V es none=(aM K e.1,gT wr V e.2) :: aX wr K V (aKc es y) none
    rw [<- ih]
   ·cases h
theorem oU (wr:Bool) (K V:Ty):∀ (es:List (K.T × V.T)) (hole:Option K.T),(aX wr K V es hole).map (·.1)=(es.map (·.1)).map (aM K)
 | [],_=>rfl
 | e :: es,none=>by show aM K e.1 :: (aX wr K V es none).map (·.1)=_;rw [oU wr K V es none];rfl
 | e :: es,some y=>by
  unfold aX
  split
  ·show aM K e.1 :: (aX wr K V es none).map (·.1)=_;rw [oU wr K V es none];rfl
  ·show aM K e.1 :: (aX wr K V es (some y)).map (·.1)=_;rw [oU wr K V es (some y)];rfl
def aPs {α:Type} [DecidableEq α]:List α->α->List α
 | [],_=>[]
 | x :: l,y=>if x=y then aPs l y else x :: aPs l y
theorem aE8 {K:Ty} (hk:nJ K=true) (y:K.T):∀ l:List K.T,nU (aM K y) (l.map (aM K))=some ((aPs l y).map (aM K))
 | []=>rfl
 | x :: l=>by
  show (match (aM K y).keq (aM K x),nU (aM K y) (l.map (aM K)) with | some true,some l=>some l | some false,some l=>some (aM K x :: l) | _,_=>none)=_
  rw [pH hk,aE8 hk y l]
  have hs:aPs (x :: l) y=if x=y then aPs l y else x :: aPs l y:=rfl
  rw [hs]
  by_cases he:x=y
  ·rw [decide_eq_true he,if_pos he]
  ·rw [decide_eq_false he,if_neg he];rfl
def aV3 (V:Ty):XV->Option V.T
 | .d t x=>t.cst V x
 | .agg cs=>match jU V with
  | true=>none
  | false=>match pkD V cs with
   | some (x,[])=>some x
   | _=>none
 | _=>none
theorem aV8 [YL] {V:Ty} {v:XV} {x:V.T} (h:aV3 V v=some x):v.er=aM V x:=by
 unfold aV3 at h
 split at h
 ·obtain ⟨e,rfl⟩:=Ty.cst_ok h
  subst e;rfl
 ·split at h
  ·cases h
  ·rename_i cs _ hl
   split at h
   ·rename_i y hp
    cases h
    obtain ⟨l1,e1,e2⟩:=tW hp
    rw [List.append_nil] at e1
    subst e1
    rw [kB x hl]
    show AV.agg (XV.fcL _)=_
    rw [e2]
   ·cases h
 ·cases h
theorem aP9:∀ l:List DV,AV.hfreeL (l.map .D)=true
 | []=>rfl
 | _ :: l=>aP9 l
theorem aOf {V:Ty} (x:V.T):(aM V x).hfree=true:=by
 cases hl:jU V with
 | true=>cases V <;> first | rfl | (cases hl;done)
 | false=>rw [kB x hl];exact aP9 _
def isO:Ty->Bool
 | .o _=>true
 | _=>false
def aOg {α:Type} [DecidableEq α] (hole:Option α) (y:α) (K:Option R):Option R:=match hole with
 | none=>K
 | some z=>gd? (z=y) K
theorem aUp {α:Type} [DecidableEq α] {hole:Option α} {y:α} {K:Option R} {r:R} (h:aOg hole y K=some r):(hole=none\/hole=some y)/\K=some r:=by
 unfold aOg at h
 split at h
 ·exact ⟨.inl rfl,h⟩
 ·obtain ⟨e,h⟩:=bN h
  exact ⟨.inr (by rw [e]),h⟩
def aZv (s:XS) (wr:Bool) (V:Ty) (vz:XV) (K:V.T->Option Hd->Option R):Option R:=match V,K with
 | .o t,K=>match vz with
  | .slw hr t' len=>match s.lk hr with
   | some (.row mt t2 xs)=>match t2.beq t' && (!wr || mt),(Ty.sl t2).cst (.sl t) xs with
    | true,some x=>gl? len xs (K x (some hr))
    | _,_=>none
   | _=>none
  | _=>none
 | V,K=>match aV3 V vz with
  | some x=>K x none
  | none=>none
theorem bBq [YL] {s:XS} {wr:Bool} {V:Ty} {vz:XV} {K:V.T->Option Hd->Option R} {r:R} (h:aZv s wr V vz K=some r):∃ x hr,K x hr=some r /\
  ((hr=none/\MV.v (aM V x)=gT wr V x/\vz.er=aM V x)\/∃ a mt k rs b,hr=some a/\((wr=false/\gT wr V x=.o k rs)\/(wr=true/\mt=true/\gT wr V x=.ow k rs))/\vz.er=.sl a k 0 rs.length/\s.lk a=some b/\b.er=.row mt k rs):=by
 cases V with
 | o t =>
  unfold aZv at h
  simp only at h
  split at h
  ·rename_i hr t' len
   split at h
   ·rename_i mt t2 xs hl
    split at h
    ·rename_i x hb hx
     rw [Bool.and_eq_true] at hb
     obtain ⟨hb,hw⟩:=hb
     obtain rfl:=Ty.eq_of hb
     obtain ⟨e,rfl⟩:=Ty.cst_ok hx
     cases e
     obtain ⟨e,h⟩:=aUj h
     refine ⟨xs,some hr,h,.inr ⟨hr,mt,t.n,xs.map t.ds,_,rfl,?_,?_,hl,rfl⟩⟩
     ·cases wr with
      | false=>exact .inl ⟨rfl,rfl⟩
      | true=>exact .inr ⟨rfl,hw,rfl⟩
     show AV.sl hr t.n 0 len=_
     rw [e,List.length_map]
    ·cases h
   ·cases h
  ·cases h
 | _ =>
  unfold aZv at h
  simp only at h
  split at h
  ·rename_i x hx
   exact ⟨x,none,h,.inl ⟨rfl,rfl,aV8 hx⟩⟩
  ·cases h
def bCu (s:XS) (h:Hd) (b:XB) (hr:Option Hd) (K:XS->Option R):Option R:=match hr with
 | none=>K (s.setBlk h (some b))
 | some a=>match a.eqb h with
  | true=>none
  | false=>K ((s.setBlk a none).setBlk h (some b))
def aUs (s:XS) (h:Hd) (wr:Bool) (K0 V:Ty) (es:List (K0.T × V.T)) (hole:Option K0.T) (y:K0.T) (vz:XV) (K:XS->Option R):Option R :=
 aZv s wr V vz fun x hr=>aOg hole y (bCu s h (.mp wr K0 V (bY es y x) none none) hr K)
def aRi (s:XS) (kd:KD) (vy vz:XV) (K:XS->Option R):XV->Option R
 | .mref h=>match s.lk h with
  | some (.mp wr K0 V es hole i)=>match nJ K0 && kdB K0.kd kd && bBf wr i,aHq K0 vy with
   | true,some y=>aUs s h wr K0 V es hole y vz K
   | _,_=>none
  | _=>none
 | _=>none
theorem aI7 {s:XS} {a h:Hd} {b0:XB} (hl:s.lk a=some b0) (hn:a ≠ h) (b:Option XB):(s.setBlk a b).lk h=s.lk h:=by
 cases a with
 | B i=>cases h with
  | B j =>
   show aW (rF s.bs i b) j=aW s.bs j
   rw [kW _ _ _ _ (mA (l:=s.bs) hl),if_neg (fun e=>hn (by rw [e]))]
  | O j=>rfl
 | O i=>cases h with
  | B j=>rfl
  | O j =>
   show aW (rF s.own i b) j=aW s.own j
   rw [kW _ _ _ _ (mA (l:=s.own) hl),if_neg (fun e=>hn (by rw [e]))]
theorem aTj [YL] {s:XS} {hd:Hd} {wr:Bool} {K0 V:Ty} {es:List (K0.T × V.T)} {hole:Option K0.T} {i:Option (Hd × Option K0.T × List K0.T)} {y:K0.T} {vz:XV} {K:XS->Option R} {r:R} (hk:nJ K0=true) (hl:s.lk hd=some (.mp wr K0 V es hole i)) (hio:bBf wr i=true) (h:aUs s hd wr K0 V es hole y vz K=some r) {KP:AState->Prop} (hK:∀ s',K s'=some r->KP s'.er) {zo:Operand} (hz:s.er.ev zo=vz.er) :
  aWf s.er (s.er.ev zo) fun mv s1=>∃ es it r,s.er.lk hd=some (.mp K0.kd es it)/\bW (aM K0 y) es=some r/\KP (s1.setBlk hd (some (.mp K0.kd (zE es r (aM K0 y) mv) none))):=by
 have hl':s.er.lk hd=some (.mp K0.kd (aX wr K0 V es hole) (itX K0 i)):=by rw [aS,hl];show some (Blk.mp _ (gG wr K0 V es hole i) _)=_;rw [yL hio]
 obtain ⟨q,f1,_⟩:=gO (wr:=wr) (V:=V) hk y es hole
 obtain ⟨x,hr,h,hx⟩:=bBq h
 obtain ⟨hh,h⟩:=aUp h
 rcases hx with ⟨rfl,e1,e2⟩ | ⟨a,mt,k,rs,b,rfl,e1,e2,e3,e4⟩
 ·rw [hz,e2]
  refine .inl ⟨aOf x,_,_,q,hl',f1,?_⟩
  have:=hK _ h
  rw [aZ hl] at this
  rw [uT hk y x _ e1 es hole q hh f1]
  have e9:(some (XB.mp wr K0 V (bY es y x) none none)).map XB.er=some (.mp K0.kd (aX wr K0 V (bY es y x) none) none):=by show some (Blk.mp _ (gG wr _ _ _ _ _) _)=_;rw [aD0];rfl
  rw [e9] at this
  exact this
 ·unfold bCu at h
  simp only at h
  split at h
  ·cases h
  ·rename_i hne
   have hne:a ≠ hd:=fun e=>by rw [e,Hd.eqb_iff.2 rfl] at hne;cases hne
   rw [hz,e2]
   have e9:(some (XB.mp wr K0 V (bY es y x) none none)).map XB.er=some (.mp K0.kd (aX wr K0 V (bY es y x) none) none):=by show some (Blk.mp _ (gG wr _ _ _ _ _) _)=_;rw [aD0];rfl
   have:=hK _ h
   rw [aZ ((aI7 e3 hne none).trans hl),aZ e3,e9] at this
   have fin:∀ mv,gT wr V x=mv->∃ es' it r,s.er.lk hd=some (.mp K0.kd es' it)/\bW (aM K0 y) es'=some r/\KP ((s.er.setBlk a none).setBlk hd (some (.mp K0.kd (zE es' r (aM K0 y) mv) none))):=fun mv e1=>by
    refine ⟨_,_,q,hl',f1,?_⟩
    rw [uT hk y x _ e1.symm es hole q hh f1]
    exact this
   refine .inr ⟨a,k,mt,rs,rfl,by rw [aS,e3];exact congrArg some e4,?_⟩
   rcases e1 with ⟨_,e1⟩ | ⟨_,e1',e1⟩
   ·exact .inl (fin _ e1)
   ·exact .inr ⟨e1',fin _ e1⟩
theorem aMm [YL] {s:XS} {kd:KD} {yo zo:Operand} {vy vz a:XV} {K:XS->Option R} {r:R} (hy:s.er.ev yo=vy.er) (hz:s.er.ev zo=vz.er) (h:aRi s kd vy vz K a=some r) {KP:AState->Prop} (hK:∀ s',K s'=some r->KP s'.er):vW s.er kd yo zo KP a.er:=by
 unfold aRi at h
 split at h
 ·rename_i hd
  split at h
  ·rename_i wr K0 V es hole i hl
   split at h
   ·rename_i y hb hkey
    rw [Bool.and_eq_true,Bool.and_eq_true] at hb
    obtain ⟨⟨hk,hkd⟩,hio⟩:=hb
    have hkd:=wU hkd
    subst hkd
    have ey:=zP hkey
    refine ⟨by rw [hy,ey];exact vL hk y,?_⟩
    have:=aTj hk hl hio h hK hz
    rw [hy,ey];exact this
   ·cases h
  ·cases h
 ·cases h
def aKz {α:Type} [DecidableEq α] (y:α):Option (Hd × Option α × List α)->Option (Hd × Option α × List α)
 | none=>none
 | some (hi,_,rem)=>some (hi,none,aPs rem y)
def aVc (s:XS) (kd:KD) (vy:XV) (K:XS->Option R):XV->Option R
 | .mref h=>match s.lk h with
  | some (.mp false K0 V es none i)=>match nJ K0 && kdB K0.kd kd,aHq K0 vy with
   | true,some y=>K (s.setBlk h (some (.mp false K0 V (aKc es y) none (aKz y i))))
   | _,_=>none
  | _=>none
 | _=>none
theorem aYd [YL] {s:XS} {kd:KD} {yo:Operand} {vy a:XV} {K:XS->Option R} {r:R} (hy:s.er.ev yo=vy.er) (h:aVc s kd vy K a=some r) {KP:AState->Prop} (hK:∀ s',K s'=some r->KP s'.er):aLt s.er kd yo KP a.er:=by
 unfold aVc at h
 split at h
 ·rename_i hd
  split at h
  ·rename_i K0 V es i hl
   split at h
   ·rename_i y hb hkey
    rw [Bool.and_eq_true] at hb
    obtain ⟨hk,hkd⟩:=hb
    have hkd:=wU hkd
    subst hkd
    have ey:=zP hkey
    obtain ⟨q,f1,_⟩:=gO (V:=V) hk y es none
    refine ⟨by rw [hy,ey];exact vL hk y,_,itX K0 i,q,itX K0 (aKz y i),by rw [aS,hl];rfl,by rw [hy,ey];exact f1,?_,?_⟩
    ·rw [hy,ey]
     cases i with
     | none=>rfl
     | some p =>
      obtain ⟨hi,cur,rem⟩:=p
      show (match nU (aM K0 y) (rem.map (aM K0)) with | some r=>some (some (hi,[],r)) | none=>none)=_
      rw [aE8 hk];rfl
    ·have:=hK _ h
     rw [aZ hl] at this
     have e:=aBo (V:=V) hk y es q f1
     have e2:(some (XB.mp false K0 V (aKc es y) none (aKz y i))).map XB.er=some (.mp K0.kd (aX false K0 V (aKc es y) none) (itX K0 (aKz y i))):=rfl
     rw [e2,<- e] at this
     exact this
   ·cases h
  ·cases h
 ·cases h
def bDg (s:XS) (kd:KD) (dst:Option Nat) (K:XS->Option R):XV->Option R
 | .mref h=>match s.lk h with
  | some (.mp wr K0 V es hole i)=>match kdB K0.kd kd && (!wr || (i.isNone && hole.isNone)) with
   | true=>K ((s.setBlk h (some (.mp wr K0 V es hole (some (.O s.own.length,none,es.map (·.1)))))).put dst (.itr h (.O s.own.length)) [.it] [])
   | false=>none
  | _=>none
 | _=>none
theorem aHm (K V:Ty):∀ es:List (K.T × V.T),eM K V es (es.map (·.1))=aX true K V es none
 | []=>rfl
 | e :: es=>by
  show (if e.1 ∈ e.1 :: es.map (·.1) then (aM K e.1,gT true V e.2) :: eM K V es ((e.1 :: es.map (·.1)).erase e.1) else _)=(aM K e.1,gT true V e.2) :: aX true K V es none
  rw [if_pos List.mem_cons_self,List.erase_cons_head,aHm K V es]
theorem bAe [YL] {s:XS} {kd:KD} {a:XV} {dst:Option Nat} {K:XS->Option R} {r:R} (h:bDg s kd dst K a=some r) {KP:AState->Prop} (hK:∀ s',K s'=some r->KP s'.er):aVd s.er kd dst KP a.er:=by
 unfold bDg at h
 split at h
 ·rename_i hd
  split at h
  ·rename_i wr K0 V es hole i hl
   split at h
   ·rename_i hkd
    rw [Bool.and_eq_true] at hkd
    obtain ⟨hkd,hw⟩:=hkd
    have hkd:=wU hkd
    subst hkd
    refine ⟨_,_,by rw [aS,hl];rfl,?_⟩
    have:=hK _ h
    rw [cG,aZ hl] at this
    have e1:gG wr K0 V es hole (some (.O s.own.length,none,es.map (·.1)))=gG wr K0 V es hole i/\(gG wr K0 V es hole i).map (·.1)=(es.map (·.1)).map (aM K0):=by
     cases wr with
     | false=>exact ⟨rfl,oU _ _ _ _ _⟩
     | true =>
      cases i with
      | some _=>cases hw
      | none =>
       cases hole with
       | some _=>cases hw
       | none=>exact ⟨aHm _ _ _,oU _ _ _ _ _⟩
    rw [e1.2]
    have e2:(some (XB.mp wr K0 V es hole (some (.O s.own.length,none,es.map (·.1))))).map XB.er=some (.mp K0.kd (gG wr K0 V es hole i) (itX K0 (some (.O s.own.length,none,es.map (·.1))))):=by
     show some (Blk.mp _ (gG wr K0 V es hole (some _)) _)=_
     rw [e1.1]
    rw [e2] at this
    exact this
   ·cases h
  ·cases h
 ·cases h
def aKm (s:XS) (kd:KD) (z:AV) (k:Nat) (ok:Bool) (vy:XV) (dst:Option Nat) (K:XS->Option R):XV->Option R
 | .mref h=>match ok,s.lk h with
  | false,some (.mp wr K0 (.o t) es none i)=>match nJ K0 && kdB K0.kd kd && zeq [z] [.D (.L [])] && Nat.beq t.n k && bBf wr i,aHq K0 vy with
   | true,some y=>K ((s.setBlk h (some (.mp wr K0 (.o t) es (some y) i))).put dst (.slw (.O s.own.length) t ((bL es y).getD []).length) [.row wr t ((bL es y).getD [])] [])
   | _,_=>none
  | _,_=>none
 | _=>none
theorem xF {wr:Bool} {K:Ty} {t:Ty} (hk:nJ K=true) (y:K.T):∀ (es:List (K.T × List t.T)) (r:Option (Nat × MV)),bW (aM K y) (aX wr K (.o t) es none)=some r ->
  match r with
  | none=>bL es y=none/\aX wr K (.o t) es (some y)=aX wr K (.o t) es none
  | some (j,mv)=>∃ x k2,bL es y=some x/\mv=gT wr (.o t) x/\(aX wr K (.o t) es none)[j]?=some (k2,mv)/\aX wr K (.o t) es (some y)=(aX wr K (.o t) es none).set j (k2,.v (aKd wr (.o t) x))
 | [],r,h=>by cases h;exact ⟨rfl,rfl⟩
 | e :: es,r,h=>by
  have h:bW (aM K y) ((aM K e.1,gT wr (.o t) e.2) :: aX wr K (.o t) es none)=some r:=h
  unfold bW at h
  rw [pH hk] at h
  have hs:bL (e :: es) y=if e.1=y then some e.2 else bL es y:=rfl
  have h2:aX wr K (.o t) (e :: es) (some y)=if e.1=y then (aM K e.1,.v (aKd wr (.o t) e.2)) :: aX wr K (.o t) es none else (aM K e.1,gT wr (.o t) e.2) :: aX wr K (.o t) es (some y):=rfl
  rw [hs,h2]
  by_cases he:e.1=y
  ·rw [decide_eq_true he] at h
   simp only [Option.some.injEq] at h
   subst h
   rw [if_pos he,if_pos he]
   exact ⟨e.2,aM K e.1,rfl,rfl,rfl,rfl⟩
  ·rw [decide_eq_false he] at h
   rw [if_neg he,if_neg he]
   simp only at h
   split at h
   ·rename_i j v0 hq
    cases h
    have ih:=xF hk y es _ hq
    obtain ⟨x,k2,i1,i2,i3,i4⟩:=ih
    refine ⟨x,k2,i1,i2,i3,?_⟩
    rw [i4];rfl
   ·rename_i hq
    cases h
    have ih:=xF hk y es _ hq
    exact ⟨ih.1,by rw [ih.2];rfl⟩
   ·cases h
theorem aH1 [YL] {s:XS} {kd:KD} {z:AV} {k:Nat} {ok:Bool} {yo:Operand} {vy a:XV} {dst:Option Nat} {K:XS->Option R} {r:R} (hy:s.er.ev yo=vy.er) (h:aKm s kd z k ok vy dst K a=some r) {KP:AState->Prop} (hK:∀ s',K s'=some r->KP s'.er):xR s.er kd z k ok yo dst KP a.er:=by
 unfold aKm at h
 split at h
 ·rename_i hd
  split at h
  ·rename_i wr K0 t es i hl
   split at h
   ·rename_i y hb hkey
    rw [Bool.and_eq_true,Bool.and_eq_true,Bool.and_eq_true,Bool.and_eq_true] at hb
    obtain ⟨⟨⟨⟨hk,hkd⟩,hz⟩,hn⟩,hio⟩:=hb
    have hkd:=wU hkd
    subst hkd
    have hz:=aBj hz
    injection hz with hz _
    have hn:=Nat.eq_of_beq_eq_true hn
    have ey:=zP hkey
    obtain ⟨q,f1,_⟩:=gO (wr:=wr) (V:=.o t) hk y es none
    have f2:=xF (wr:=wr) (t:=t) hk y es q f1
    have hl':s.er.lk hd=some (.mp K0.kd (aX wr K0 (.o t) es none) (itX K0 i)):=by rw [aS,hl];show some (Blk.mp _ (gG wr _ _ _ _ _) _)=_;rw [yL hio]
    refine ⟨by rw [hy,ey];exact vL hk y,rfl,_,_,q,hl',by rw [hy,ey];exact f1,?_⟩
    have:=hK _ h
    rw [cG,aZ hl] at this
    match q,f2 with
    | none,f2 =>
     obtain ⟨g1,g2⟩:=f2
     refine ⟨hz,wr,?_⟩
     rw [g1] at this
     have e1:(some (XB.mp wr K0 (.o t) es (some y) i)).map XB.er=some (.mp K0.kd (aX wr K0 (.o t) es none) (itX K0 i)):=by
      show some (Blk.mp _ (gG wr K0 (.o t) es (some y) i) _)=_
      rw [yL hio,g2]
     rw [e1] at this
     rw [<- hn]
     exact this
    | some (j,mv),f2 =>
     obtain ⟨x,k2,g1,rfl,g3,g4⟩:=f2
     rw [g1] at this
     have e1:(some (XB.mp wr K0 (.o t) es (some y) i)).map XB.er=some (.mp K0.kd ((aX wr K0 (.o t) es none).set j (k2,.v (aKd wr (.o t) x))) (itX K0 i)):=by
      show some (Blk.mp _ (gG wr K0 (.o t) es (some y) i) _)=_
      rw [yL hio,g4]
     rw [e1] at this
     have e2:(XV.slw (.O s.own.length) t ((some x).getD []).length).er=.sl (.O s.er.nx) k 0 (x.map t.ds).length:=by
      show AV.sl (.O s.own.length) t.n 0 x.length=_
      rw [List.length_map,hn];rfl
     have e3:[XB.row wr t ((some x).getD [])].map XB.er=[Blk.row wr k (x.map t.ds)]:=by
      show [Blk.row wr t.n (x.map t.ds)]=_
      rw [hn]
     rw [e2,e3] at this
     cases wr with
     | false=>exact ⟨hn,k2,by rw [<- hn];exact g3,this⟩
     | true=>exact ⟨hn,k2,by rw [<- hn];exact g3,this⟩
   ·cases h
  ·cases h
 ·cases h
theorem wR {K:Ty} {t:Ty} (hk:nJ K=true) (y:K.T):∀ (es:List (K.T × List t.T)) (l:List K.T) (r:Option (Nat × MV)),y ∉ l->bW (aM K y) (eM K (.o t) es (y :: l))=some r ->
  match r with
  | none=>bL es y=none
  | some (j,mv)=>∃ x k2,bL es y=some x/\mv=.ow t.n (x.map t.ds)/\(eM K (.o t) es (y :: l))[j]?=some (k2,mv)/\eM K (.o t) es l=(eM K (.o t) es (y :: l)).set j (k2,.v .any)
 | [],l,r,_,h=>by cases h;rfl
 | e :: es,l,r,hy,h=>by
  have hs:bL (e :: es) y=if e.1=y then some e.2 else bL es y:=rfl
  have u:∀ l:List K.T,eM K (.o t) (e :: es) l=if e.1 ∈ l then (aM K e.1,gT true (.o t) e.2) :: eM K (.o t) es (l.erase e.1) else (aM K e.1,.v .any) :: eM K (.o t) es l:=fun _=>rfl
  by_cases he:e.1=y
  ·have e2:eM K (.o t) (e :: es) (y :: l)=(aM K e.1,.ow t.n (List.map t.ds e.2)) :: eM K (.o t) es l:=by
    rw [u,he,if_pos List.mem_cons_self,List.erase_cons_head];rfl
   rw [e2] at h |-
   unfold bW at h
   rw [pH hk,decide_eq_true he] at h
   simp only [Option.some.injEq] at h
   subst h
   rw [hs,if_pos he]
   refine ⟨e.2,aM K e.1,rfl,rfl,rfl,?_⟩
   rw [u,if_neg (by rw [he];exact hy)];rfl
  ·have e2:∃ mv0 l',y ∉ l'/\eM K (.o t) (e :: es) (y :: l)=(aM K e.1,mv0) :: eM K (.o t) es (y :: l')/\eM K (.o t) (e :: es) l=(aM K e.1,mv0) :: eM K (.o t) es l':=by
    by_cases hm:e.1 ∈ l
    ·exact ⟨gT true (.o t) e.2,l.erase e.1,fun q=>hy (List.mem_of_mem_erase q),by rw [u,if_pos (List.mem_cons_of_mem _ hm),List.erase_cons_tail (by simpa using fun q=>he q.symm)],by rw [u,if_pos hm]⟩
    ·exact ⟨.v .any,l,hy,by rw [u,if_neg (fun q=>by rcases List.mem_cons.1 q with q | q;exact he q;exact hm q)],by rw [u,if_neg hm]⟩
   obtain ⟨mv0,l',hy',e2,e3⟩:=e2
   rw [e2] at h |-
   rw [e3]
   unfold bW at h
   rw [pH hk,decide_eq_false he] at h
   rw [hs,if_neg he]
   simp only at h
   split at h
   ·rename_i j v0 hq
    cases h
    have ih:=wR hk y es l' _ hy' hq
    obtain ⟨x,k2,i1,i2,i3,i4⟩:=ih
    refine ⟨x,k2,i1,i2,i3,?_⟩
    rw [i4];rfl
   ·rename_i hq
    cases h
    exact wR hk y es l' _ hy' hq
   ·cases h
theorem aDz {K:Ty} {t:Ty} (hk:nJ K=true) (y:K.T):∀ (es:List (K.T × List t.T)) (l:List K.T),∃ r,bW (aM K y) (eM K (.o t) es l)=some r/\(r=none->bL es y=none)
 | [],_=>⟨none,rfl,fun _=>rfl⟩
 | e :: es,l=>by
  have u:∃ mv0 l',eM K (.o t) (e :: es) l=(aM K e.1,mv0) :: eM K (.o t) es l':=by
   show ∃ mv0 l',(if e.1 ∈ l then _ else _)=_
   split
   ·exact ⟨_,_,rfl⟩
   ·exact ⟨_,_,rfl⟩
  obtain ⟨mv0,l',e1⟩:=u
  rw [e1]
  obtain ⟨r,h1,h2⟩:=aDz hk y es l'
  unfold bW
  rw [pH hk]
  have hs:bL (e :: es) y=if e.1=y then some e.2 else bL es y:=rfl
  by_cases he:e.1=y
  ·rw [decide_eq_true he]
   exact ⟨_,rfl,fun q=>by cases q⟩
  ·rw [decide_eq_false he,hs,if_neg he]
   simp only [h1]
   cases r with
   | none=>exact ⟨_,rfl,fun _=>h2 rfl⟩
   | some p=>exact ⟨_,rfl,fun q=>by cases q⟩
def aVi (s:XS) (dst:Option Nat) (K:XS->Option R):XV->Option R
 | .itr h hi=>match s.lk h,s.lk hi with
  | some (.mp true K0 (.o t) es none (some (hi',some cur,rem))),some _=>match nJ K0 && hi.eqb hi' with
   | true=>gd? (¬ cur ∈ rem) <| bd? (bL es cur) fun v=>K ((s.setBlk h (some (.mp true K0 (.o t) es none (some (hi,none,rem))))).put dst (.tup [aG4 K0 cur,.slw (.O s.own.length) t v.length]) [.row true t v] [])
   | false=>none
  | _,_=>none
 | _=>none
theorem aY0 [YL] {s:XS} {dst:Option Nat} {K:XS->Option R} {r:R} {vx:XV} (h:aVi s dst K vx=some r) {KP:AState->Prop} (hK:∀ s',K s'=some r->KP s'.er):aMd s.er dst KP vx.er:=by
 unfold aVi at h
 split at h
 ·rename_i hd hi
  split at h
  ·rename_i K0 t es hi' cur rem b hl hl2
   split at h
   ·rename_i hb
    rw [Bool.and_eq_true] at hb
    obtain ⟨hk,hh⟩:=hb
    obtain rfl:=Hd.eqb_iff.1 hh
    obtain ⟨hn,h⟩:=bN h
    obtain ⟨v,hv,h⟩:=aWn h
    obtain ⟨q,f1,f2⟩:=aDz hk cur es (cur :: rem)
    have f3:=wR hk cur es rem q hn f1
    match q,f1,f2,f3 with
    | none,_,f2,_=>rw [f2 rfl] at hv;cases hv
    | some (j,mv),f1,_,f3 =>
     obtain ⟨x,k2,g1,rfl,g3,g4⟩:=f3
     rw [hv] at g1
     cases g1
     refine ⟨by rw [aS,hl2];rfl,K0.kd,eM K0 (.o t) es (cur :: rem),aM K0 cur,_,j,k2,t.n,v.map t.ds,by rw [aS,hl];rfl,vL hk cur,f1,g3,?_⟩
     have:=hK _ h
     rw [cG,aZ hl] at this
     have e1:(some (XB.mp true K0 (.o t) es none (some (hi,none,rem)))).map XB.er=some (.mp K0.kd ((eM K0 (.o t) es (cur :: rem)).set j (k2,.v .any)) (some (hi,[],rem.map (aM K0)))):=by
      show some (Blk.mp _ (eM K0 (.o t) es rem) _)=_
      rw [g4];rfl
     rw [e1] at this
     have e2:(XV.tup [aG4 K0 cur,.slw (.O s.own.length) t v.length]).er=.tup [aM K0 cur,.sl (.O s.er.nx) t.n 0 (v.map t.ds).length]:=by
      show AV.tup [(aG4 K0 cur).er,AV.sl (.O s.own.length) t.n 0 v.length]=_
      rw [List.length_map,uS];rfl
     rw [e2] at this
     exact this
   ·cases h
  ·cases h
 ·cases h
end Go.Eng

namespace Go.Eng
open Go.RowKit
variable {R:Type}

def bGc (vr:Hd->Option Nat) (s:XS):Nat->List (Option XB)->List (Option Hd)->List (Option Hd)
 | _,[],l=>l
 | i,m :: r,l=>bGc vr s (i + 1) r (match bD4 l i,m with
  | some h,some (.box ms)=>match s.lk h with
   | some (.box cs)=>aYq vr ms cs l
   | _=>l
  | _,_=>l)
def bCy:List (Option Hd)->Option (List Hd)
 | []=>some []
 | some h :: r=>match bCy r with
  | some l=>some (h :: l)
  | none=>none
 | none :: _=>none
def aJ7:List Hd->Bool
 | []=>true
 | h :: r=>!(hin h r) && aJ7 r
theorem aId:∀ {l:List Hd},aJ7 l=true->l.Nodup
 | [],_=>List.nodup_nil
 | h :: r,e=>by
  unfold aJ7 at e
  rw [Bool.and_eq_true,Bool.not_eq_true'] at e
  exact List.nodup_cons.2 ⟨fun q=>(by rw [rL.2 q] at e;cases e.1),aId e.2⟩
def aIp (s:XS):List Hd->List (Option XB)
 | []=>[]
 | h :: r=>s.lk h :: aIp s r
theorem aQe [YL] (s:XS):∀ hs:List Hd,erB (aIp s hs)=hs.map s.er.lk
 | []=>rfl
 | h :: r=>by show (s.lk h).map XB.er :: erB (aIp s r)=s.er.lk h :: r.map s.er.lk;rw [aS,aQe s r]
theorem aMx (s:XS):∀ (hs:List Hd) (i:Nat),aW (aIp s hs) i=(hs[i]?).bind s.lk
 | [],_=>by simp [aIp,aW]
 | h :: r,0=>rfl
 | h :: r,i + 1=>by show aW (aIp s r) i=_;rw [aMx s r i];simp
def okH (s:XS):List Hd->Bool
 | []=>true
 | h :: r=>(match s.lk h with
  | some .it=>false
  | some _=>true
  | none=>false) && okH s r
theorem aWh [YL] {s:XS}:∀ {hs:List Hd},okH s hs=true->∀ h ∈ hs,∃ b,s.lk h=some b/\b.er.isIt=false
 | [],_,_,h=>by cases h
 | x :: r,e,h,hh=>by
  unfold okH at e
  rw [Bool.and_eq_true] at e
  rcases List.mem_cons.1 hh with rfl | hh
  ·have e:=e.1
   split at e
   ·cases e
   ·rename_i b hn hl
    refine ⟨b,hl,?_⟩
    cases b with
    | it=>exact (hn rfl).elim
    | _=>rfl
   ·cases e
  ·exact aWh e.2 h hh
def XB.hr:XB->List Hd
 | .box cs=>XV.hrL cs
 | _=>[]
theorem bEu [YL] (b:XB):b.er.rows=b.hr:=by
 cases b with
 | box cs=>exact aJq cs
 | _=>rfl
def tP (s:XS):List Hd->List Hd
 | []=>[]
 | h :: r=>(match s.lk h with
  | some b=>b.hr
  | none=>[]) ++ tP s r
theorem aCv [YL] (s:XS):∀ hs:List Hd,rC s.er.lk hs=tP s hs
 | []=>rfl
 | h :: r=>by
  unfold rC tP
  rw [aCv s r,aS]
  cases s.lk h with
  | none=>rfl
  | some b=>exact congrArg (· ++ _) (bEu b)
def aHv (hs:List Hd):List Hd->List Hd
 | []=>[]
 | h :: r=>match hin h hs with
  | true=>aHv hs r
  | false=>h :: aHv hs r
theorem aF1 (hs:List Hd):∀ l:List Hd,l.filter (fun h=>decide (h ∉ hs))=aHv hs l
 | []=>rfl
 | h :: r=>by
  rw [List.filter_cons]
  unfold aHv
  cases hq:hin h hs with
  | true=>rw [if_neg (by simp [rL.1 hq])];exact aF1 hs r
  | false=>rw [if_pos (by simp only [decide_eq_true_eq];exact fun q=>by rw [rL.2 q] at hq;cases hq),aF1 hs r]
def qS (ψ:Hd->Hd):List Hd->List (Option XB)->XS->XS
 | h :: hs,b :: bs,s=>qS ψ hs bs (s.setBlk h (match b with
  | some b=>some (b.ren ψ)
  | none=>none))
 | _,_,s=>s
def inR (s:XS):Hd->Prop
 | .B i=>i < s.bs.length
 | .O i=>i < s.own.length
theorem bD9 {s:XS} {h:Hd} {b:XB} (hl:s.lk h=some b):inR s h:=by
 cases h with
 | B i=>exact mA (l:=s.bs) hl
 | O i=>exact mA (l:=s.own) hl
theorem aPb [YL] {s:XS} {h:Hd} (hl:inR s h) (b:Option XB):(s.setBlk h b).er=s.er.setBlk h (b.map XB.er):=by
 cases h with
 | B i =>
  refine AState.ext' (fun _=>rfl) (fun j=>?_) (fun _=>rfl) rfl
  show (aW (rF s.bs i b) j).map XB.er=if j=i then b.map XB.er else (aW s.bs j).map XB.er
  rw [kW _ _ _ _ hl];split <;> rfl
 | O i =>
  refine AState.ext' (fun _=>rfl) (fun _=>rfl) (fun j=>?_) (tC _ _ _)
  show (aW (rF s.own i b) j).map XB.er=if j=i then b.map XB.er else (aW s.own j).map XB.er
  rw [kW _ _ _ _ hl];split <;> rfl
theorem bBr {s:XS} {h h':Hd} (hl:inR s h') (b:Option XB):inR (s.setBlk h b) h':=by
 cases h with
 | B i=>cases h' with
  | B j=>show j < (rF s.bs i b).length;rw [tC];exact hl
  | O j=>exact hl
 | O i=>cases h' with
  | B j=>exact hl
  | O j=>show j < (rF s.own i b).length;rw [tC];exact hl
theorem aB8 [YL] (ψ:Hd->Hd):∀ (hs:List Hd) (bs:List (Option XB)) (s:XS),(∀ h ∈ hs,inR s h)->(qS ψ hs bs s).er=bS s.er ψ hs (erB bs)
 | [],bs,s,_=>by unfold qS bS;rfl
 | h :: hs,[],s,_=>by unfold qS bS;rfl
 | h :: hs,b :: bs,s,hr=>by
  have h1:=hr h List.mem_cons_self
  show (qS ψ hs bs (s.setBlk h _)).er=bS (s.er.setBlk h ((b.map XB.er).map (Blk.ren ψ))) ψ hs (erB bs)
  rw [aB8 ψ hs bs _ (fun x hx=>bBr (hr x (List.mem_cons_of_mem _ hx)) _),aPb h1]
  cases b with
  | none=>rfl
  | some b =>
   show bS (s.er.setBlk h (some (b.ren ψ).er)) ψ hs (erB bs)=_
   rw [aJ1];rfl
def aOo (s:XS) (hs:List Hd) (vs:List XV) (dst:Option Nat) (o:XS) (bl:List XB):XS :=
 (qS (cH hs s.own.length) hs o.bs (s.put none .un [] (aHv hs (xfz s (XV.hrL vs ++ tP s hs))))).put dst ((XV.val o.env).ren (cH hs s.own.length)) (bl.map (XB.ren (cH hs s.own.length))) []
theorem aZ2 {s:XS} {h:Hd} (hl:inR s h) (fz:List Hd):inR (s.put none .un [] fz) h:=by
 cases h with
 | B i =>
  show i < (match fz with | []=>s.bs | fz=>vR .B fz 0 s.bs).length
  cases fz with
  | nil=>exact hl
  | cons x r=>show i < (vR .B (x :: r) 0 s.bs).length;rw [tO];exact hl
 | O i =>
  show i < ((match fz with | []=>s.own | fz=>vR .O fz 0 s.own) ++ ([]:List XB).map some).length
  rw [List.length_append]
  cases fz with
  | nil=>exact Nat.lt_of_lt_of_le hl (Nat.le_add_right _ _)
  | cons x r =>
   show i < (vR .O (x :: r) 0 s.own).length + _
   rw [tO];exact Nat.lt_of_lt_of_le hl (Nat.le_add_right _ _)
theorem aUc [YL] {s:XS} {hs:List Hd} (hr:∀ h ∈ hs,inR s h) (vs:List XV) (dst:Option Nat) (o:XS) (bl:List XB):(aOo s hs vs dst o bl).er=fV s.er hs (XV.erL vs) dst (XV.val o.env).er (erB o.bs) (bl.map XB.er):=by
 have e:fzE s.er.lk hs (XV.erL vs)=aHv hs (xfz s (XV.hrL vs ++ tP s hs)):=by
  unfold fzE
  rw [aF1,wV,aCv,oO]
 unfold aOo fV
 rw [cG,aB8 _ _ _ _ (fun h hh=>aZ2 (hr h hh) _),cG,aKy,bCh,e]
 rfl
def aRc (s:XS) (hs:List Hd) (vs:List XV) (dst:Option Nat) (K:XS->Option R) (o:XS):Option R:=match Nat.beq o.bs.length hs.length,aNx o.own with
 | true,some bl=>K (aOo s hs vs dst o bl)
 | _,_=>none
def aQg (s:XS) (g:Sig) (vs:List XV) (dst:Option Nat) (K:XS->Option R) (hs:List Hd):Option R:=match aJ7 hs && aP4 s.own.length hs && okH s hs && aBw 0 g.ent.env vs,g.ent.own with
 | true,[]=>rdK s (aB1 hs) g.ent (vN vs) (aIp s hs) [] fun v=>bd? (apF g.ent.tys g.F v) fun r=>bAo g.out r (aRc s hs vs dst K)
 | _,_=>none
def aOv (T:List Sig) (s:XS) (vs:List XV) (dst:Option Nat) (K:XS->Option R):XV->Option R
 | .clo fn caps=>match aV7 T fn (vs ++ caps) with
  | some g=>match bCy (bGc vrB s 0 g.ent.bs (bBs vrB (vN (vs ++ caps)) g.ent.env (aQi g.ent.bs))) with
   | some hs=>aQg s g (vs ++ caps) dst K hs
   | none=>none
  | none=>none
 | _=>none
theorem aT0 {s:XS} {hs:List Hd}:∀ h h' b,aB1 hs h=some h'->s.lk h=some b->match h' with | .B i=>aW (aIp s hs) i=some b | .O i=>aW [] i=some b:=fun h h' b e hl=>by
 have e:(aBr h hs 0).map Hd.B=some h':=e
 rw [Option.map_eq_some_iff] at e
 obtain ⟨i,hi,rfl⟩:=e
 obtain ⟨_,h2⟩:=uU hi
 show aW (aIp s hs) i=some b
 rw [aMx,show hs[i]?=some h from h2];exact hl
theorem aUh [YL] {P:Program} {T:List Sig} (hT:pD P T) {s:XS} {vs:List XV} {dst:Option Nat} {K:XS->Option R} {r:R} {vf:XV} (h:aOv T s vs dst K vf=some r) {KP:AState->Prop} (hK:∀ s',K s'=some r->KP s'.er):aEn P s.er dst KP (XV.erL vs) vf.er:=by
 unfold aOv at h
 split at h
 case h_2=>cases h
 rename_i fn caps
 split at h
 case h_2=>cases h
 rename_i g hg
 obtain ⟨hs,hfn⟩:=aJx hT hg
 split at h
 case h_2=>cases h
 rename_i hds _
 unfold aQg at h
 split at h
 case h_2=>cases h
 rename_i hb ho
 rw [Bool.and_eq_true,Bool.and_eq_true,Bool.and_eq_true] at hb
 obtain ⟨⟨⟨b1,b2⟩,b3⟩,b4⟩:=hb
 obtain ⟨v,h,e1,e2,_⟩:=aPq aT0 h
 obtain ⟨rr,hr,h⟩:=aWn h
 have h:=aJb h
 unfold aRc at h
 split at h
 case h_2=>cases h
 rename_i bl hlen hbl
 have hlen:=Nat.eq_of_beq_eq_true hlen
 have hargs:(g.ent.fill v).env.map (fun p=>p.2.er)=AV.convL s.er.lk (aB1 hds) (XV.erL vs ++ XV.erL caps):=by
  have:=congrArg (fun l=>l.map (fun p:Nat × AV=>p.2)) e1
  simp only [List.map_map] at this
  rw [<- zM,xZ,<- uW (f:=fun v=>AV.conv s.er.lk (aB1 hds) v.er) b4 (ev:=vN (vs ++ caps)) fun i _=>by rw [Nat.zero_add]]
  exact this
 have hcall:=hs v rr hr (bl.map XB.er) (aE7 hbl)
 have hh:xE s.er.lk hds=erB (g.ent.fill v).bs:=by
  rw [e2,aQe,List.map_map];rfl
 rw [hargs,hfn,<- hh] at hcall
 have hlive:=aWh b3
 refine ⟨hds,_,_,_,aId b1,b2,fun x hx=>?_,fun x hx=>?_,?_,hcall,?_⟩
 ·obtain ⟨b,q,_⟩:=hlive x hx
  rw [aS,q];rfl
 ·obtain ⟨b,q,q2⟩:=hlive x hx
  rw [aS,q];exact q2
 ·show (List.map _ _).length=_
  rw [List.length_map];exact hlen
 ·have:=hK _ h
  rw [aUc (fun x hx=>by obtain ⟨b,q,_⟩:=hlive x hx;exact bD9 q),zM] at this
  exact this

structure XRO where
 ro:RO
 ty:Option Ty
def aD3 (T:List Sig) (s:XS) (o:XRO) (K:XS->Option R):Option R :=
 match o.ro.op with
 | .store sz a x=>w1 s a fun va=>w1 s x fun vx=>match bGi vx va with
  | true=>aJf s sz vx K va
  | false=>aPt s sz vx K va
 | .appE k bytes x y=>w1 s x fun vx=>w1 s y fun vy=>aDm s o.ty k bytes vy o.ro.dst K vx
 | .app k bytes x y=>w1 s x fun vx=>w1 s y fun vy=>bFp s o.ty k bytes vy (fun v nbs fz=>K (s.put o.ro.dst v nbs fz)) vx
 | .callE f args=>w1 s f fun vf=>wL s args fun vs=>aOv T s vs o.ro.dst K vf
 | .clr k zs x=>w1 s x (bE6 s k zs o.ro.dst K)
 | .cpy k x y=>w1 s x fun vx=>w1 s y fun vy=>aUx s k vy o.ro.dst K vx
 | .mtake kd z k ok x y=>w1 s x fun vx=>w1 s y fun vy=>aKm s kd z k ok vy o.ro.dst K vx
 | .mput kd x y z=>w1 s x fun vx=>w1 s y fun vy=>w1 s z fun vz=>aRi s kd vy vz K vx
 | .mdel kd x y=>w1 s x fun vx=>w1 s y fun vy=>aVc s kd vy K vx
 | .rng kd x=>w1 s x (bDg s kd o.ro.dst K)
 | .entT x=>w1 s x (aVi s o.ro.dst K)
 | op=>xp T s o.ty op fun v nbs fz=>K (s.put o.ro.dst v nbs fz)
theorem aAx [YL] {P:Program} {T:List Sig} (hT:pD P T) {s:XS} {o:XRO} {K:XS->Option R} {r:R} (h:aD3 T s o K=some r) {KP:AState->Prop} (hK:∀ s',K s'=some r->KP s'.er):nO P s.er o.ro KP:=by
 have hput:∀ v nbs fz,K (s.put o.ro.dst v nbs fz)=some r->KP (s.er.put o.ro.dst v.er (nbs.map XB.er) fz):=fun v nbs fz h=>by rw [<- cG];exact hK _ h
 unfold aD3 at h
 unfold nO
 split at h
 ·rename_i sz a x e
  obtain ⟨h,e1⟩:=aI h
  obtain ⟨h,e2⟩:=aI h
  rw [e]
  show oK s.er sz (s.er.ev x) KP (s.er.ev a)\/oK (s.er.put none .un [] (fzL s.er.lk (AV.rows (s.er.ev x)))) sz (AV.conv s.er.lk (fun _=>none) (s.er.ev x)) KP (s.er.ev a)
  split at h
  ·right;rw [e1];exact aPa e2 h hK
  ·left;rw [e1];exact aT9 e2 h hK
 ·rename_i k bytes x y e
  obtain ⟨h,e1⟩:=aI h
  obtain ⟨h,e2⟩:=aI h
  rw [e]
  show pQ s.er k bytes y o.ro.dst KP (s.er.ev x)
  rw [e1];exact aFz e2 h hK
 ·rename_i k bytes x y e
  obtain ⟨h,e1⟩:=aI h
  obtain ⟨h,e2⟩:=aI h
  rw [e]
  show ∃ es,s.er.ev x=.fl es/\_
  rw [e1];exact aZ6 e2 h (KP:=fun a nbs fz=>KP (s.er.put o.ro.dst a nbs fz)) hput
 ·rename_i f args e
  obtain ⟨h,e1⟩:=aI h
  obtain ⟨vs,h,e2⟩:=aHl h
  rw [e]
  show aEn P s.er o.ro.dst KP (args.map s.er.ev) (s.er.ev f)
  rw [e1,e2];exact aUh hT h hK
 ·rename_i k zs x e
  obtain ⟨h,e1⟩:=aI h
  rw [e]
  show aBm s.er k zs o.ro.dst KP (s.er.ev x)
  rw [e1];exact bBm h hK
 ·rename_i k x y e
  obtain ⟨h,e1⟩:=aI h
  obtain ⟨h,e2⟩:=aI h
  rw [e]
  show aIa s.er k y o.ro.dst KP (s.er.ev x)
  rw [e1];exact aVo e2 h hK
 ·rename_i kd z k ok x y e
  obtain ⟨h,e1⟩:=aI h
  obtain ⟨h,e2⟩:=aI h
  rw [e]
  show xR s.er kd z k ok y o.ro.dst KP (s.er.ev x)
  rw [e1];exact aH1 e2 h hK
 ·rename_i kd x y z e
  obtain ⟨h,e1⟩:=aI h
  obtain ⟨h,e2⟩:=aI h
  obtain ⟨h,e3⟩:=aI h
  rw [e]
  show vW s.er kd y z KP (s.er.ev x)
  rw [e1];exact aMm e2 e3 h hK
 ·rename_i kd x y e
  obtain ⟨h,e1⟩:=aI h
  obtain ⟨h,e2⟩:=aI h
  rw [e]
  show aLt s.er kd y KP (s.er.ev x)
  rw [e1];exact aYd e2 h hK
 ·rename_i kd x e
  obtain ⟨h,e1⟩:=aI h
  rw [e]
  show aVd s.er kd o.ro.dst KP (s.er.ev x)
  rw [e1];exact bAe h hK
 ·rename_i x e
  obtain ⟨h,e1⟩:=aI h
  rw [e]
  show aMd s.er o.ro.dst KP (s.er.ev x)
  rw [e1];exact aY0 h hK
 ·rename_i n1 n2 n3 n4 n5 n6 n7 n8 n9 n10 n11
  have:=bCo hT h (KP:=fun a nbs fz=>KP (s.er.put o.ro.dst a nbs fz)) hput
  split
  ·rename_i e;exact absurd e (n1 _ _ _)
  ·rename_i e;exact absurd e (n2 _ _ _ _)
  ·rename_i e;exact absurd e (n4 _ _)
  ·rename_i e;exact absurd e (n5 _ _ _)
  ·rename_i e;exact absurd e (n6 _ _ _)
  ·rename_i e;exact absurd e (n7 _ _ _ _ _ _)
  ·rename_i e;exact absurd e (n8 _ _ _ _)
  ·rename_i e;exact absurd e (n9 _ _ _)
  ·rename_i e;exact absurd e (n10 _ _)
  ·rename_i e;exact absurd e (n11 _)
  ·exact this
def nE (s:XS) (t:Nat) (q:Bool):XS:={ s with env:=(t,.d .b q) :: s.env }
theorem hZ [YL] {s:XS} {t:Nat} {c q:Bool} (h:aY s.env t=.d .b c) (e:c=q):(nE s t q).er=s.er:=by
 subst e
 refine AState.ext' (fun i=>?_) (fun _=>rfl) (fun _=>rfl) rfl
 show (if Nat.beq i t=true then XV.d .b c else aY s.env i).er=(aY s.env i).er
 by_cases hi:i=t
 ·rw [if_pos (by rw [Nat.beq_eq];exact hi),hi,h]
 ·rw [if_neg (by rw [Nat.beq_eq];exact hi)]
def tG (T:List Sig):List XRO->XS->(XS->Option R)->Option R
 | [],s,K=>K s
 | o :: r,s,K=>match o.ro.guard with
  | none=>aD3 T s o fun s'=>tG T r s' K
  | some (t,want)=>match aY s.env t with
   | .d .b c=>match want with
    | true=>if? c (aD3 T (nE s t true) o fun s'=>tG T r s' K) (tG T r ((nE s t false).put o.ro.dst .un [] []) K)
    | false=>if? c (tG T r ((nE s t true).put o.ro.dst .un [] []) K) (aD3 T (nE s t false) o fun s'=>tG T r s' K)
   | .un=>tG T r (s.put o.ro.dst .un [] []) K
   | _=>none
theorem fY [YL] {P:Program} {T:List Sig} (hT:pD P T) {r:R}:∀ {os:List XRO} {s:XS} {K:XS->Option R},tG T os s K=some r->∀ {KP:AState->Prop},(∀ s',K s'=some r->KP s'.er)->jI P (os.map XRO.ro) s.er KP
 | [],s,K,h,KP,hK=>hK _ h
 | o :: os,s,K,h,KP,hK=>by
  unfold tG at h
  show jI P (o.ro :: os.map XRO.ro) s.er KP
  unfold jI
  split at h
  ·rename_i hg
   rw [hg]
   exact aAx hT h fun s' h=>fY hT h hK
  ·rename_i t want hg
   rw [hg]
   split at h
   ·rename_i c hc
    have ht:s.er.env t=.D (.B c):=by show (aY s.env t).er=_;rw [hc];rfl
    show match s.er.env t with
     | .D (.B c)=>(c=want->_)/\(¬ c=want->_)
     | .D (.C (.tuple _))=>_
     | _=>False
    rw [ht]
    split at h
    ·rcases aIt h with ⟨e,h⟩ | ⟨e,h⟩
     ·have:=aAx hT h (KP:=fun s'=>jI P (os.map XRO.ro) s' KP) fun s' h=>fY hT h hK
      rw [hZ hc e] at this
      exact ⟨fun _=>this,fun h=>absurd e h⟩
     ·have:=fY hT h hK
      rw [cG,hZ hc e] at this
      exact ⟨fun h=>Bool.noConfusion (e.symm.trans h),fun _=>this⟩
    ·rcases aIt h with ⟨e,h⟩ | ⟨e,h⟩
     ·have:=fY hT h hK
      rw [cG,hZ hc e] at this
      exact ⟨fun h=>Bool.noConfusion (e.symm.trans h),fun _=>this⟩
     ·have:=aAx hT h (KP:=fun s'=>jI P (os.map XRO.ro) s' KP) fun s' h=>fY hT h hK
      rw [hZ hc e] at this
      exact ⟨fun _=>this,fun h=>absurd e h⟩
   ·rename_i hc
    have ht:s.er.env t=.D (.C undef):=by show (aY s.env t).er=_;rw [hc];rfl
    have:=fY hT h hK
    rw [cG] at this
    show match s.er.env t with
     | .D (.B c)=>(c=want->_)/\(¬ c=want->_)
     | .D (.C (.tuple _))=>_
     | _=>False
    rw [ht]
    exact this
   ·cases h

def aZr:Option XB->Option XB->Bool
 | some (.arr _ n _ _),some (.arr _ m _ _)=>Nat.beq n m
 | _,_=>false
theorem bAi [YL] {b c:Option XB} (h:aZr b c=true):keepB false (b.map XB.er) (c.map XB.er):=by
 unfold aZr at h
 split at h
 ·rename_i mt n k x mt' m k' y
  have h:=Nat.eq_of_beq_eq_true h
  subst h
  show shp (some (Blk.row mt' 1 (y.l.map (arD k'))))=shp (some (Blk.row mt 1 (x.l.map (arD k))))
  unfold shp
  simp only [List.length_map,x.len,y.len]
 ·cases h
def aQo (s s':XS):List Hd->Bool
 | []=>true
 | h :: r=>aZr (s.lk h) (s'.lk h) && aQo s s' r
theorem aL8 [YL] {s s':XS}:∀ {hs:List Hd},aQo s s' hs=true->aHp false hs s.er s'.er
 | [],_=>fun _ h=>by cases h
 | h :: r,e=>by
  have e:(aZr (s.lk h) (s'.lk h) && aQo s s' r)=true:=e
  rw [Bool.and_eq_true] at e
  intro x hx
  rcases List.mem_cons.1 hx with rfl | hx
  ·rw [aS,aS];exact bAi e.1
  ·exact aL8 e.2 x hx
def xhd:XV->Option Hd
 | .apt h _=>some h
 | .asl h _ _=>some h
 | .ptr h _=>some h
 | .pa h _ _=>some h
 | .ept h _ _ _=>some h
 | .epa h _ _ _ _=>some h
 | .slw h _ _=>some h
 | .sl h _ _ _=>some h
 | _=>none
theorem aD5 [YL] {v:XV} {h:Hd} (e:xhd v=some h):v.er.hd?=some h:=by
 unfold xhd at e
 split at e <;> first | exact e | cases e
def ldX (hs:List Hd) (s:XS) (op:ROp):Bool:=match op.sArg with
 | none=>true
 | some x=>match xhd (s.ev x) with
  | some h=>hin h hs
  | none=>noG x
theorem aYb [YL] {v:XV} (e:xhd v=none):v.er.hd?=none:=by
 cases v <;> first | rfl | (cases e;done) | skip
 rename_i t x
 cases t <;> rfl
theorem aPr [YL] {hs:List Hd} {s:XS} {op:ROp} (h:ldX hs s op=true):aVk hs op s.er.ev:=by
 unfold ldX at h
 unfold aVk
 split at h
 ·rename_i e;rw [e];trivial
 ·rename_i x e
  rw [e]
  split at h
  ·rename_i hd hx
   intro h' e'
   rw [nP s rfl,aD5 hx] at e'
   cases e'
   exact rL.1 h
  ·rename_i hx
   intro h' e'
   rw [nP s rfl,aYb hx] at e'
   cases e'
def aKi (s:XS) (x:Operand) (K:List Hd):List Hd:=match xhd (s.ev x) with
 | some h=>match hin h K with
  | true=>K
  | false=>h :: K
 | none=>K
def aOu:List XV->Nat->Option XV
 | [],_=>none
 | v :: _,0=>some v
 | .d t _ :: r,off + 1=>match Nat.ble t.n (off + 1) with
  | true=>aOu r (off + 1 - t.n)
  | false=>none
 | _ :: r,off + 1=>aOu r off
def ldP (s:XS) (ag:Option Nat) (dst:Option Nat) (x:Operand):XS:=match ag,s.ev x with
 | none,.ptr h off=>match s.lk h with
  | some (.box cs)=>match aOu cs off with
   | some v=>s.put dst v [] []
   | none=>s
  | _=>s
 | _,_=>s
def zQ (s:XS):List XRO->List Hd
 | []=>[]
 | o :: r=>match o.ro.op with
  | .mv x=>zQ (s.put o.ro.dst (s.ev x) [] []) r
  | .nilcS x=>aKi s x (zQ (s.put o.ro.dst (s.ev x) [] []) r)
  | .loadS ag x=>aKi s x (zQ (ldP s ag o.ro.dst x) r)
  | .faddrS _ x=>aKi s x (zQ (s.put o.ro.dst (s.ev x) [] []) r)
  | .iaddr _ x _=>zQ (s.put o.ro.dst (s.ev x) [] []) r
  | op=>match op.sArg with
   | some x=>aKi s x (zQ s r)
   | none=>zQ s r
def eqX (v w:XV) (K:Option R):Option R:=match v,w with
 | .d t x,.d t' y=>match t'.cst t y with
  | some y=>gd? (x=y) K
  | none=>none
 | .slw h t n,.slw h' t' n'=>match h.eqb h',t.beq t' with
  | true,true=>gd? (n=n') K
  | _,_=>none
 | .ptr h o,.ptr h' o'=>match h.eqb h',Nat.beq o o' with
  | true,true=>K
  | _,_=>none
 | .apt h o,.apt h' o'=>match h.eqb h',Nat.beq o o' with
  | true,true=>K
  | _,_=>none
 | .mref h,.mref h'=>match h.eqb h' with
  | true=>K
  | false=>none
 | .fln _,.fln _=>K
 | .nl _,.nl _=>K
 | .sc,.sc=>K
 | .c x,.c y=>match cEq x y with
  | true=>K
  | false=>none
 | _,_=>none
theorem bDk [YL] {v w:XV} {K:Option R} {r:R} (h:eqX v w K=some r):v.fc=w.fc/\K=some r:=by
 unfold eqX at h
 split at h
 ·split at h
  ·rename_i y hy
   obtain ⟨e,rfl⟩:=Ty.cst_ok hy
   subst e
   obtain ⟨rfl,h⟩:=bN h
   exact ⟨rfl,by assumption⟩
  ·cases h
 ·split at h
  ·rename_i h1 h2
   obtain rfl:=Hd.eqb_iff.1 h1
   obtain rfl:=Ty.eq_of h2
   replace h:=bN h
   obtain ⟨e,h⟩:=h
   subst e
   exact ⟨rfl,h⟩
  ·cases h
 ·split at h
  ·rename_i h1 h2
   obtain rfl:=Hd.eqb_iff.1 h1
   obtain rfl:=Nat.eq_of_beq_eq_true h2
   exact ⟨rfl,h⟩
  ·cases h
 ·split at h
  ·rename_i h1 h2
   obtain rfl:=Hd.eqb_iff.1 h1
   obtain rfl:=Nat.eq_of_beq_eq_true h2
   exact ⟨rfl,h⟩
  ·cases h
 ·split at h
  ·rename_i h1
   obtain rfl:=Hd.eqb_iff.1 h1
   exact ⟨rfl,h⟩
  ·cases h
 ·exact ⟨rfl,h⟩
 ·exact ⟨rfl,h⟩
 ·exact ⟨rfl,h⟩
 ·split at h
  ·rename_i h1
   obtain rfl:=aUy h1
   exact ⟨rfl,h⟩
  ·cases h
 ·cases h
def aZ3:List XV->List XV->Option R->Option R
 | [],[],K=>K
 | v :: vs,w :: ws,K=>eqX v w (aZ3 vs ws K)
 | _,_,_=>none
theorem aRh [YL] {r:R}:∀ {vs ws:List XV} {K:Option R},aZ3 vs ws K=some r->XV.fcL vs=XV.fcL ws/\K=some r
 | [],[],_,h=>⟨rfl,h⟩
 | v :: vs,w :: ws,K,h=>by
  obtain ⟨e,h⟩:=bDk (K:=aZ3 vs ws K) h
  obtain ⟨e2,h⟩:=aRh h
  exact ⟨by show v.fc ++ XV.fcL vs=w.fc ++ XV.fcL ws;rw [e,e2],h⟩
 | [],_ :: _,_,h=>by cases h
 | _ :: _,[],_,h=>by cases h
def bDn (b c:Option XB) (K:Option R):Option R:=match b,c with
 | some (.box vs),some (.box ws)=>aZ3 vs ws K
 | some (.row mt t xs),some (.row mt' t' ys)=>match mt == mt',(Ty.sl t').cst (.sl t) ys with
  | true,some ys=>gd? (xs=ys) K
  | _,_=>none
 | some (.arr mt n k x),some (.arr mt' n' k' y)=>match mt == mt',(Ty.ar n' k').cst (.ar n k) y with
  | true,some y=>gd? (x=y) K
  | _,_=>none
 | _,_=>none
theorem bB2 [YL] {b c:Option XB} {K:Option R} {r:R} (h:bDn b c K=some r):b.map XB.er=c.map XB.er/\K=some r:=by
 unfold bDn at h
 split at h
 ·obtain ⟨e,h⟩:=aRh h
  exact ⟨congrArg (fun l=>some (Blk.box l)) e,h⟩
 ·split at h
  ·rename_i ys h1 hy
   obtain ⟨e,hy⟩:=Ty.cst_ok hy
   cases e
   cases hy
   replace h:=bN h
   obtain ⟨e,h⟩:=h
   cases e
   exact ⟨by rw [eq_of_beq h1],h⟩
  ·cases h
 ·split at h
  ·rename_i y h1 hy
   obtain ⟨e,hy⟩:=Ty.cst_ok hy
   cases e
   cases hy
   replace h:=bN h
   obtain ⟨e,h⟩:=h
   cases e
   exact ⟨by rw [eq_of_beq h1],h⟩
  ·cases h
 ·cases h
def aKj (s s':XS):List Hd->Option R->Option R
 | [],K=>K
 | h :: r,K=>bDn (s.lk h) (s'.lk h) (aKj s s' r K)
theorem aHn [YL] {s s':XS} {r:R}:∀ {hs:List Hd} {K:Option R},aKj s s' hs K=some r->aHp true hs s.er s'.er/\K=some r
 | [],_,h=>⟨fun _ h=>(by cases h),h⟩
 | x :: hs,K,h=>by
  obtain ⟨e,h⟩:=bB2 (K:=aKj s s' hs K) h
  obtain ⟨e2,h⟩:=aHn h
  refine ⟨fun y hy=>?_,h⟩
  rcases List.mem_cons.1 hy with rfl | hy
  ·show s'.er.lk y=s.er.lk y
   rw [aS,aS,e]
  ·exact e2 y hy
def aYe (ld:Bool) (s s':XS) (hs:List Hd) (K:Option R):Option R:=match ld with
 | true=>aKj s s' hs K
 | false=>match aQo s s' hs with
  | true=>K
  | false=>none
theorem aY2 [YL] {ld:Bool} {s s':XS} {hs:List Hd} {K:Option R} {r:R} (h:aYe ld s s' hs K=some r):aHp ld hs s.er s'.er/\K=some r:=by
 unfold aYe at h
 split at h
 ·exact aHn h
 ·split at h
  ·rename_i e;exact ⟨aL8 e,h⟩
  ·cases h
def yS (s:XS) (o:XRO) (K:XS->Option R):Option R:=match o.ro.op with
 | .loadS ag x=>w1 s x fun v=>match xhd v with
  | some _=>aRf s ag (fun a=>K (s.put o.ro.dst a [] [])) v
  | none=>none
 | .faddrS off x=>w1 s x fun v=>match xhd v,sS s v with
  | some _,true=>aI8 off (fun a=>K (s.put o.ro.dst a [] [])) v
  | _,_=>none
 | .lenS str x=>w1 s x fun v=>match xhd v,sS s v,aXo str v with
  | some _,true,some m=>K (s.put o.ro.dst (.d (.i .i64) (m:Int)) [] [])
  | _,_,_=>none
 | .nilcS x=>w1 s x fun v=>match xhd v,sS s v with
  | some _,true=>aSa (fun a=>K (s.put o.ro.dst a [] [])) v
  | _,_=>none
 | _=>none
theorem aDi (s:XS) (dst:Option Nat) (v:XV) (h:Hd):(s.put dst v [] []).lk h=s.lk h:=by
 cases h with
 | B i=>rfl
 | O i=>show aW (s.own ++ []) i=aW s.own i;rw [List.append_nil]
theorem xN [YL] {P:Program} {s:XS} {o:XRO} {K:XS->Option R} {r:R} (h:yS s o K=some r) {KP:AState->Prop} (hK:∀ s',(∀ h,s'.lk h=s.lk h)->K s'=some r->KP s'.er):nO P s.er o.ro KP:=by
 have hput:∀ v,K (s.put o.ro.dst v [] [])=some r->KP (s.er.put o.ro.dst v.er [] []):=fun v h=>by
  have:=hK _ (aDi s _ v) h
  rw [cG] at this
  exact this
 unfold yS at h
 split at h
 ·rename_i ag x e
  obtain ⟨h,e1⟩:=aI h
  split at h
  ·rename_i hd hh
   unfold nO
   rw [e]
   show (s.er.ev x).hd?.isSome=true/\mN s.er.lk ag _ (s.er.ev x)
   rw [e1,aD5 hh]
   exact ⟨rfl,aEp h fun v h=>hput v h⟩
  ·cases h
 ·rename_i off x e
  obtain ⟨h,e1⟩:=aI h
  split at h
  ·rename_i hd hh hl
   unfold nO
   rw [e]
   show (s.er.ev x).hd?.isSome=true/\AV.live s.er.lk (s.er.ev x)=true/\_
   rw [e1,aD5 hh]
   exact ⟨rfl,gJ hl,aIm h (KP:=fun a=>KP (s.er.put o.ro.dst a [] [])) fun v h=>hput v h⟩
  ·cases h
 ·rename_i str x e
  obtain ⟨h,e1⟩:=aI h
  split at h
  ·rename_i hd m hh hl hm
   unfold nO
   rw [e]
   show (s.er.ev x).hd?.isSome=true/\AV.live s.er.lk (s.er.ev x)=true/\_
   rw [e1,aD5 hh]
   exact ⟨rfl,gJ hl,m,aJt hm,hput _ h⟩
  ·cases h
 ·rename_i x e
  obtain ⟨h,e1⟩:=aI h
  split at h
  ·rename_i hd hh hl
   unfold nO
   rw [e]
   show (s.er.ev x).hd?.isSome=true/\AV.live s.er.lk (s.er.ev x)=true/\_
   rw [e1,aD5 hh]
   exact ⟨rfl,gJ hl,aNq h (KP:=fun a=>KP (s.er.put o.ro.dst a [] [])) fun v h=>hput v h⟩
  ·cases h
 ·cases h
def aO3 (s:XS) (o:XRO) (K:XS->Option R):Option R:=match o.ro.guard with
 | none=>yS s o K
 | some (t,want)=>match aY s.env t with
  | .d .b c=>match want with
   | true=>if? c (yS (nE s t true) o K) (K ((nE s t false).put o.ro.dst .un [] []))
   | false=>if? c (K ((nE s t true).put o.ro.dst .un [] [])) (yS (nE s t false) o K)
  | .un=>K (s.put o.ro.dst .un [] [])
  | _=>none
theorem aTt [YL] {P:Program} {s:XS} {o:XRO} {K:XS->Option R} {r:R} (h:aO3 s o K=some r) {KP:AState->Prop} (hK:∀ s',(∀ h,s'.lk h=s.lk h)->K s'=some r->KP s'.er):jI P [o.ro] s.er KP:=by
 unfold aO3 at h
 unfold jI
 split at h
 ·rename_i hg
  rw [hg]
  exact xN h hK
 ·rename_i t want hg
  rw [hg]
  split at h
  ·rename_i c hc
   have ht:s.er.env t=.D (.B c):=by show (aY s.env t).er=_;rw [hc];rfl
   show match s.er.env t with
    | .D (.B c)=>(c=want->_)/\(¬ c=want->_)
    | .D (.C (.tuple _))=>_
    | _=>False
   rw [ht]
   split at h
   ·rcases aIt h with ⟨e,h⟩ | ⟨e,h⟩
    ·have:=xN (P:=P) h fun s' e=>hK s' e
     rw [hZ hc e] at this
     exact ⟨fun _=>this,fun h=>absurd e h⟩
    ·have:=hK _ (fun x=>aDi (nE s t false) _ _ x) h
     rw [cG,hZ hc e] at this
     exact ⟨fun h=>Bool.noConfusion (e.symm.trans h),fun _=>this⟩
   ·rcases aIt h with ⟨e,h⟩ | ⟨e,h⟩
    ·have:=hK _ (fun x=>aDi (nE s t true) _ _ x) h
     rw [cG,hZ hc e] at this
     exact ⟨fun h=>Bool.noConfusion (e.symm.trans h),fun _=>this⟩
    ·have:=xN (P:=P) h fun s' e=>hK s' e
     rw [hZ hc e] at this
     exact ⟨fun _=>this,fun h=>absurd e h⟩
  ·rename_i hc
   have ht:s.er.env t=.D (.C undef):=by show (aY s.env t).er=_;rw [hc];rfl
   show match s.er.env t with
    | .D (.B c)=>(c=want->_)/\(¬ c=want->_)
    | .D (.C (.tuple _))=>_
    | _=>False
   rw [ht]
   have:=hK _ (fun x=>aDi s _ _ x) h
   rw [cG] at this
   exact this
  ·cases h
def bGb:ROp->Bool
 | .loadS _ _=>true
 | .faddrS _ _=>true
 | .nilcS _=>true
 | .lenS _ _=>true
 | _=>false
def aQa:Bool->List XRO->Bool
 | true,[]=>true
 | _,_=>false
theorem aYz {l:Bool} {os:List XRO} (h:aQa l os=true):¬ (l=false\/os.map XRO.ro ≠ []):=by
 unfold aQa at h
 split at h
 ·simp
 ·cases h
def aG6 (T:List Sig) (ld:Bool) (hs:List Hd) (lst:Bool):List XRO->XS->(XS->Option R)->Option R
 | [],s,K=>K s
 | o :: r,s,K=>match ldX hs s o.ro.op with
  | true=>match bGb o.ro.op with
   | true=>aO3 s o fun s'=>aG6 T ld hs lst r s' K
   | false=>match o.ro.op.ht,aQa lst r with
    | true,false=>tG T [o] s fun s'=>aYe ld s s' hs (aG6 T ld hs lst r s' K)
    | _,_=>tG T [o] s fun s'=>aG6 T ld hs lst r s' K
  | false=>none
theorem yW [YL] {P:Program} {T:List Sig} (hT:pD P T) {ld:Bool} {hs:List Hd} {lst:Bool} {r:R}:∀ {os:List XRO} {s:XS} {K:XS->Option R},aG6 T ld hs lst os s K=some r->∀ {KP:AState->Prop},(∀ s',K s'=some r->KP s'.er)->aQ0 P ld hs lst (os.map XRO.ro) s.er KP
 | [],s,K,h,KP,hK=>hK _ h
 | o :: os,s,K,h,KP,hK=>by
  unfold aG6 at h
  split at h
  ·rename_i e
   split at h
   ·refine ⟨aPr e,aTt h fun s' e2 h=>⟨fun _ _ x hx=>?_,yW hT h hK⟩⟩
    rw [aS,aS,e2]
    exact keepB.refl _ _
   ·split at h
    ·refine ⟨aPr e,fY (os:=[o]) hT h fun s' h=>?_⟩
     obtain ⟨e2,h⟩:=aY2 h
     exact ⟨fun _ _=>e2,yW hT h hK⟩
    ·rename_i hn
     refine ⟨aPr e,fY (os:=[o]) hT h fun s' h=>⟨fun e1 e2=>?_,yW hT h hK⟩⟩
     cases e3:aQa lst os with
     | true=>exact absurd e2 (aYz e3)
     | false=>exact absurd e3 (hn e1)
  ·cases h

def aNe (T:List Sig):List XRO->XS->(XS->Option R)->Option R
 | [],s,K=>K s
 | o :: r,s,K=>match o.ro.op with
  | .callP f args=>match o.ro.guard with
   | none=>xp T s o.ty (.call f args) fun v nbs fz=>aNe T r (s.put o.ro.dst v nbs fz) K
   | some _=>none
  | .pan _=>none
  | _=>tG T [o] s fun s'=>aNe T r s' K
theorem aEh [YL] {P:Program} {T:List Sig} (hT:pD P T) {r:R} {Pn:Value->AState->Prop}:∀ {os:List XRO} {s:XS} {K:XS->Option R},aNe T os s K=some r->∀ {KP:AState->Prop},(∀ s',K s'=some r->KP s'.er)->oS P false (os.map XRO.ro) s.er KP Pn
 | [],s,K,h,KP,hK=>hK _ h
 | o :: os,s,K,h,KP,hK=>by
  unfold aNe at h
  show oS P false (o.ro :: os.map XRO.ro) s.er KP Pn
  unfold oS
  split at h
  ·rename_i f args e
   rw [e]
   split at h
   ·rename_i hg
    refine ⟨hg,?_⟩
    have:=bCo hT h (KP:=fun a nbs fz=>oS P false (os.map XRO.ro) (s.er.put o.ro.dst a nbs fz) KP Pn) fun v nbs fz h=>by
     rw [<- cG];exact aEh hT h hK
    obtain ⟨fn,caps,r',nbs,h1,h2,h3⟩:=this
    exact ⟨fn,caps,h1,.inl ⟨r',nbs,fun h=>Bool.noConfusion h,h2,h3⟩⟩
   ·cases h
  ·cases h
  ·rename_i n1 n2
   split
   ·rename_i f args e;exact absurd e (n1 f args)
   ·rename_i x e;exact absurd e (n2 x)
   ·exact fY (os:=[o]) hT h fun s' h=>aEh hT h hK

def nxA {α:Type} [DecidableEq R] (rem:List α) (K:α->List α->Option R) (a:Option R):Nat->Bool
 | 0=>true
 | j + 1=>(match rem[j]? with
  | some k=>decide (K k (rem.eraseIdx j)=a)
  | none=>true) && nxA rem K a j
def nx? {α:Type} [DecidableEq R] (rem:List α) (Kd:Option R) (K:α->List α->Option R):Option R:=match rem with
 | []=>Kd
 | x :: l=>match nxA (x :: l) K (K x l) (x :: l).length with
  | true=>K x l
  | false=>none
theorem aYj {α:Type} [DecidableEq R] {rem:List α} {K:α->List α->Option R} {a:Option R}:∀ {n:Nat},nxA rem K a n=true->∀ j k,j < n->rem[j]?=some k->K k (rem.eraseIdx j)=a
 | 0,_,_,_,h,_=>absurd h (Nat.not_lt_zero _)
 | n + 1,h,j,k,hj,hk=>by
  unfold nxA at h
  rw [Bool.and_eq_true] at h
  rcases Nat.lt_or_ge j n with h1 | h1
  ·exact aYj h.2 j k h1 hk
  ·have:j=n:=by omega
   subst this
   have h:=h.1
   rw [hk] at h
   exact of_decide_eq_true h
theorem bHh {α:Type} [DecidableEq R] {rem:List α} {Kd:Option R} {K:α->List α->Option R} {r:R} (h:nx? rem Kd K=some r):(rem=[]->Kd=some r)/\∀ j k,rem[j]?=some k->K k (rem.eraseIdx j)=some r:=by
 unfold nx? at h
 split at h
 ·exact ⟨fun _=>h,fun j k hk=>by simp at hk⟩
 ·rename_i x l
  split at h
  ·rename_i hn
   refine ⟨fun e=>by (cases e),fun j k hk=>?_⟩
   rw [aYj hn j k (List.getElem?_eq_some_iff.1 hk).1 hk];exact h
  ·cases h
theorem bG2 {α:Type} [DecidableEq R] {rem:List α} {Kd:Option R} {K:α->List α->Option R} {a:Option R} (h1:rem=[]->Kd=a) (h2:∀ j k,rem[j]?=some k->K k (rem.eraseIdx j)=a):nx? rem Kd K=a:=by
 unfold nx?
 split
 ·exact h1 rfl
 ·rename_i x l
  have e0:K x l=a:=h2 0 x rfl
  have:∀ n,nxA (x :: l) K (K x l) n=true:=fun n=>by
   induction n with
   | zero=>rfl
   | succ n ih =>
    unfold nxA
    rw [ih,Bool.and_true]
    split
    ·rename_i k hk
     rw [h2 n k hk,e0];exact decide_eq_true rfl
    ·rfl
  rw [this];exact e0
def aVn [DecidableEq R] (T:List Sig) (os:List XRO) (s:XS) (K:XS->Option R):Option R:=match os with
 | []=>none
 | o :: os=>match o.ro.guard,o.ro.op with
  | none,.nxt x=>w1 s x fun v=>match v with
   | .itr h hi=>match s.lk h,s.lk hi with
    | some (.mp wr K0 V es hole (some (hi',cur,rem))),some _=>match hi.eqb hi' && (!wr || cur.isNone) with
     | true=>nx? rem (tG T os (s.put o.ro.dst (.tup [.d .b false]) [] []) K) fun k rem'=>tG T os ((s.setBlk h (some (.mp wr K0 V es hole (some (hi,some k,rem'))))).put o.ro.dst (.tup [.d .b true,.any,.any]) [] []) K
     | false=>none
    | _,_=>none
   | _=>none
  | _,_=>none
theorem aH3 {α β:Type} (f:α->β):∀ (l:List α) (j:Nat),(l.map f).eraseIdx j=(l.eraseIdx j).map f
 | [],_=>rfl
 | _ :: _,0=>rfl
 | x :: l,j + 1=>by show f x :: (l.map f).eraseIdx j=f x :: (l.eraseIdx j).map f;rw [aH3 f l j]
theorem xH (K V:Ty):∀ (es:List (K.T × V.T)) {l l':List K.T},l.Perm l'->eM K V es l=eM K V es l'
 | [],_,_,_=>rfl
 | e :: es,l,l',h=>by
  show (if e.1 ∈ l then _ else _)=if e.1 ∈ l' then _ else _
  by_cases hm:e.1 ∈ l
  ·rw [if_pos hm,if_pos (h.mem_iff.1 hm),xH K V es (h.erase e.1)]
  ·rw [if_neg hm,if_neg (fun q=>hm (h.mem_iff.2 q)),xH K V es h]
theorem rY {α:Type}:∀ {l:List α} {j:Nat} {k:α},l[j]?=some k->(k :: l.eraseIdx j).Perm l
 | x :: l,0,k,h=>by cases h;exact List.Perm.refl _
 | x :: l,j + 1,k,h=>((List.Perm.swap x k _).trans ((rY (l:=l) (j:=j) h).cons x))
theorem aU7 [YL] [DecidableEq R] {P:Program} {T:List Sig} (hT:pD P T) {r:R} {os:List XRO} {s:XS} {K:XS->Option R} (h:aVn T os s K=some r) {KP:AState->Prop} (hK:∀ s',K s'=some r->KP s'.er):aVt P (os.map XRO.ro) s.er KP:=by
 unfold aVn at h
 split at h
 ·cases h
 ·rename_i o os
  split at h
  ·rename_i x hg e
   obtain ⟨h,e1⟩:=aI h
   split at h
   ·rename_i hd hi hv
    split at h
    ·rename_i wr K0 V es hole hi' cur rem b hl hl2
     split at h
     ·rename_i hh
      rw [Bool.and_eq_true] at hh
      obtain ⟨hh,hw⟩:=hh
      obtain rfl:=Hd.eqb_iff.1 hh
      obtain ⟨h1,h2⟩:=bHh h
      refine ⟨hg,?_⟩
      rw [e]
      show bAm s.er o.ro.dst _ (s.er.ev x)
      rw [e1,hv]
      refine ⟨by rw [aS,hl2];rfl,_,_,_,_,by rw [aS,hl];rfl,fun hr=>?_,fun j key hj=>?_⟩
      ·have hr:rem=[]:=List.map_eq_nil_iff.1 hr
       have:=fY hT (h1 hr) hK
       rw [cG] at this
       exact this
      ·rw [List.getElem?_map,Option.map_eq_some_iff] at hj
       obtain ⟨k,hk,rfl⟩:=hj
       have:=fY hT (h2 j k hk) hK
       rw [cG,aZ hl] at this
       have e3:(rem.map (aM K0)).eraseIdx j=(rem.eraseIdx j).map (aM K0):=aH3 _ _ _
       rw [e3]
       have e4:gG wr K0 V es hole (some (hi,some k,rem.eraseIdx j))=gG wr K0 V es hole (some (hi,cur,rem)):=by
        cases wr with
        | false=>rfl
        | true =>
         cases cur with
         | some _=>cases hw
         | none=>exact xH _ _ _ (rY hk)
       have e5:(some (XB.mp wr K0 V es hole (some (hi,some k,rem.eraseIdx j)))).map XB.er=some (.mp K0.kd (gG wr K0 V es hole (some (hi,cur,rem))) (itX K0 (some (hi,some k,rem.eraseIdx j)))):=by
        show some (Blk.mp _ (gG wr K0 V es hole (some (hi,some k,rem.eraseIdx j))) _)=_
        rw [e4]
       rw [e5] at this
       exact this
     ·cases h
    ·cases h
   ·cases h
  ·cases h
end Go.Eng

namespace Go.Eng
open Go.RowKit
variable {R:Type}

theorem AState.ext2 {s s':AState} (h1:s.env=s'.env) (h2:∀ h,s.lk h=s'.lk h) (h3:s.nx=s'.nx):s=s':=by
 have hb:s.bs=s'.bs:=funext fun i=>h2 (.B i)
 have ho:s.own=s'.own:=funext fun i=>h2 (.O i)
 cases s;cases s'
 simp only at h1 h3 hb ho
 subst h1;subst h3;subst hb;subst ho;rfl
theorem aO5 {lk lk':aH} {a:AV} {ys:List (List DV)} (h:AV.content lk a=some ys) (hl:∀ y mt k es,lk y=some (.row mt k es)->∃ mt',lk' y=some (.row mt' k es)):AV.content lk' a=some ys:=by
 cases a with
 | sl hd k off len =>
  unfold AV.content at h |-
  simp only at h |-
  cases e:lk hd with
  | none=>rw [e] at h;cases h
  | some b =>
   rw [e] at h
   cases b <;> first | (cases h;done) | skip
   obtain ⟨mt',e'⟩:=hl _ _ _ _ e
   rw [e'];exact h
 | slk hd k off len c =>
  unfold AV.content at h |-
  simp only at h |-
  cases e:lk hd with
  | none=>rw [e] at h;cases h
  | some b =>
   rw [e] at h
   cases b <;> first | (cases h;done) | skip
   obtain ⟨mt',e'⟩:=hl _ _ _ _ e
   rw [e'];exact h
 | D d=>cases d <;> exact h
 | fl es=>exact h
 | _=>cases h
theorem aMr {x:MA} {K:AState->Prop} {sB sB':AState} {hr hd:Hd} {k' off len:Nat} {mt mt':Bool} {rs:List (List DV)} {es es':List (AV × MV)} {it it':Option (Hd × List AV × List AV)} {q q':Option (Nat × MV)}
  (henv:sB'.env=sB.env) (hnx:sB'.nx=sB.nx) (hlk:∀ y,y ≠ hd->y ≠ hr->sB'.lk y=sB.lk y) (hsl:sB.ev (.tmp x.d2)=.sl hr k' off len) (h1:sB.lk hr=some (.row mt k' rs)) (h1':sB'.lk hr=some (.row mt' k' rs))
  (h2:sB.lk hd=some (.mp x.kd es it)) (h2':sB'.lk hd=some (.mp x.kd es' it')) (hm:sB.ev x.m=.mref hd) (hy:x.y ≠ .tmp x.d3/\x.y ≠ .tmp x.d4) (hf:bW (sB.ev x.y) es=some q) (hf':bW (sB.ev x.y) es'=some q') (hset:∀ mv,zE es q (sB.ev x.y) mv=zE es' q' (sB.ev x.y) mv)
  (hfresh:sB.lk (.O sB.nx)=none) (hfresh':sB'.lk (.O sB.nx)=none) (hdd:x.d3 ≠ x.d4) (hmt:mt=true->mt'=true) (h:pY x K sB):pY x K sB':=by
 have hev:∀ y,sB'.ev y=sB.ev y:=fun y=>by show evA sB'.env y=evA sB.env y;rw [henv]
 have hne:hd ≠ hr:=fun e=>by rw [e,h1] at h2;cases h2
 have hn1:hr ≠ .O sB.nx:=fun e=>by rw [e,hfresh] at h1;cases h1
 have hn2:hd ≠ .O sB.nx:=fun e=>by rw [e,hfresh] at h2;cases h2
 obtain ⟨_,ha⟩:=h
 rw [hsl] at ha
 obtain ⟨rfl,rfl,mt0,es0,ys,g1,g2,g3,g4,g5,g6,g7,g8⟩:=ha
 rw [h1] at g1
 cases g1
 have lkx:∀ (S:AState) (b:Option Blk) (a:AV) (bl:Blk) (y:Hd),(((S.setBlk hr b).put (some x.d3) a [bl] []).put (some x.d4) .any [] []).lk y=if y=.O S.nx then some bl else if y=hr then b else S.lk y:=fun S b a bl y=>by
  rw [cA,aV,cN,cA,aV,aF]
  unfold lkN
  cases y with
  | B j=>simp [aD]
  | O j =>
   by_cases e:j=S.nx
   ·subst e;simp
   ·have e1:¬ (S.nx <= j/\j < S.nx + [bl].length):=by simp;omega
    simp only [e1,if_false,aD,Hd.O.injEq,e]
 have env4:∀ (S:AState) (b:Option Blk) (a:AV) (bl:Blk),(((S.setBlk hr b).put (some x.d3) a [bl] []).put (some x.d4) .any [] []).env=upd (upd S.env x.d3 a) x.d4 .any:=fun S b a bl=>by
  show upd (upd (S.setBlk hr b).env x.d3 a) x.d4 .any=_
  rw [aK]
 refine ⟨⟨hr,_,_,_,(hev _).trans hsl⟩,?_⟩
 rw [hev,hsl]
 refine ⟨rfl,rfl,mt',rs,ys,h1',g2,?_,g4,g5,g6,g7,?_⟩
 ·rw [hev]
  refine aO5 g3 fun y m k es h=>?_
  by_cases e1:y=hd
  ·rw [e1,h2] at h;cases h
  ·by_cases e2:y=hr
   ·rw [e2,h1] at h;cases h;rw [e2];exact ⟨_,h1'⟩
   ·rw [hlk y e1 e2];exact ⟨_,h⟩
 have hmm:((sB.setBlk hr none).put (some x.d3) (.sl (.O sB.nx) x.k 0 (len + ys.length)) [.row mt x.k (rs ++ ys)] []).ev x.m=.mref hd:=by
  generalize hS:(sB.setBlk hr none).put (some x.d3) (.sl (.O sB.nx) x.k 0 (len + ys.length)) [.row mt x.k (rs ++ ys)] []=S at g8
  cases hxm:x.m with
  | tmp t =>
   by_cases e:t=x.d3
   ·exfalso
    rw [hxm] at g8
    have:S.ev (.tmp t)=.sl (.O sB.nx) x.k 0 (len + ys.length):=by
     rw [<- hS]
     show upd (sB.setBlk hr none).env x.d3 _ t=_
     unfold upd;rw [if_pos e]
    rw [this] at g8
    exact g8
   ·rw [<- hS]
    show upd (sB.setBlk hr none).env x.d3 _ t=_
    unfold upd
    rw [if_neg e,aK]
    have:=hm
    rw [hxm] at this;exact this
  | _ =>
   have:=hm
   rw [hxm] at this
   rw [<- hS];exact this
 have hmm':((sB'.setBlk hr none).put (some x.d3) (.sl (.O sB'.nx) x.k 0 (len + ys.length)) [.row mt' x.k (rs ++ ys)] []).ev x.m=.mref hd:=by
  rw [<- hmm]
  show evA (upd (sB'.setBlk hr none).env x.d3 (.sl (.O sB'.nx) x.k 0 (len + ys.length))) x.m=evA (upd (sB.setBlk hr none).env x.d3 (.sl (.O sB.nx) x.k 0 (len + ys.length))) x.m
  rw [aK,aK,henv,hnx]
 rw [hmm] at g8
 show vW ((AState.put _ _ _ _ _).put (some x.d4) .any [] []) x.kd x.y (.tmp x.d3) K (AState.ev _ x.m)
 rw [hmm',hnx]
 obtain ⟨k1,k2⟩:=g8
 have evy:∀ (S:AState) (b:Option Blk) (a:AV) (bl:Blk),(((S.setBlk hr b).put (some x.d3) a [bl] []).put (some x.d4) .any [] []).ev x.y=S.ev x.y:=fun S b a bl=>by
  show evA (AState.env _) x.y=_
  rw [env4]
  cases hxy:x.y with
  | tmp t =>
   show upd (upd S.env x.d3 a) x.d4 .any t=S.env t
   unfold upd
   rw [if_neg (fun e=>hy.2 (by rw [hxy,e])),if_neg (fun e=>hy.1 (by rw [hxy,e]))]
  | _=>rfl
 have ev3:∀ (S:AState) (b:Option Blk) (a:AV) (bl:Blk),(((S.setBlk hr b).put (some x.d3) a [bl] []).put (some x.d4) .any [] []).ev (.tmp x.d3)=a:=fun S b a bl=>by
  show upd (upd (S.setBlk hr b).env x.d3 a) x.d4 .any x.d3=a
  unfold upd
  rw [if_neg hdd,if_pos rfl]
 rw [evy] at k1 k2
 refine ⟨by rw [evy,hev];exact k1,?_⟩
 rw [ev3] at k2 |-
 rcases k2 with ⟨k2,_⟩ | ⟨h5,k5,mt5,es5,e5,l5,hK⟩
 ·cases k2
 ·injection e5 with a1 a2 a3 a4
  subst a1;subst a2
  rw [lkx,if_pos rfl] at l5
  cases l5
  have hfin:∀ mv,(((((sB'.setBlk hr none).put (some x.d3) (.sl (.O sB.nx) x.k 0 (len + ys.length)) [.row mt' x.k (rs ++ ys)] []).put (some x.d4) .any [] []).setBlk (.O sB.nx) none).setBlk hd (some (.mp x.kd (zE es' q' (sB.ev x.y) mv) none))) =
    (((((sB.setBlk hr none).put (some x.d3) (.sl (.O sB.nx) x.k 0 (len + ys.length)) [.row mt x.k (rs ++ ys)] []).put (some x.d4) .any [] []).setBlk (.O sB.nx) none).setBlk hd (some (.mp x.kd (zE es q (sB.ev x.y) mv) none))):=fun mv=>by
   refine AState.ext2 ?_ (fun y=>?_) ?_
   ·rw [aK,aK,aK,aK,env4,env4,henv]
   ·rw [aD,aD,aD,aD,lkx,lkx,hnx,hset]
    by_cases e1:y=hd
    ·rw [if_pos e1,if_pos e1]
    ·rw [if_neg e1,if_neg e1]
     by_cases e2:y=.O sB.nx
     ·rw [if_pos e2,if_pos e2]
     ·rw [if_neg e2,if_neg e2,if_neg e2,if_neg e2]
      by_cases e3:y=hr
      ·rw [if_pos e3,if_pos e3]
      ·rw [if_neg e3,if_neg e3,hlk y e1 e3]
   ·rw [aF,aF,aF,aF]
    show (sB'.setBlk hr none).nx + 1 + 0=(sB.setBlk hr none).nx + 1 + 0
    rw [aF,aF,hnx]
  have hy':(((sB'.setBlk hr none).put (some x.d3) (.sl (.O sB.nx) x.k 0 (len + ys.length)) [.row mt' x.k (rs ++ ys)] []).put (some x.d4) .any [] []).ev x.y=sB.ev x.y:=by rw [evy,hev]
  have move:∀ mv,(∃ es6 it6 q6,((((sB.setBlk hr none).put (some x.d3) (.sl (.O sB.nx) x.k 0 (len + ys.length)) [.row mt x.k (rs ++ ys)] []).put (some x.d4) .any [] []).lk hd=some (.mp x.kd es6 it6)/\bW (sB.ev x.y) es6=some q6 /\
    K (((((sB.setBlk hr none).put (some x.d3) (.sl (.O sB.nx) x.k 0 (len + ys.length)) [.row mt x.k (rs ++ ys)] []).put (some x.d4) .any [] []).setBlk (.O sB.nx) none).setBlk hd (some (.mp x.kd (zE es6 q6 (sB.ev x.y) mv) none))))) ->
    ∃ es6 it6 q6,((((sB'.setBlk hr none).put (some x.d3) (.sl (.O sB.nx) x.k 0 (len + ys.length)) [.row mt' x.k (rs ++ ys)] []).put (some x.d4) .any [] []).lk hd=some (.mp x.kd es6 it6)/\bW ((((sB'.setBlk hr none).put (some x.d3) (.sl (.O sB.nx) x.k 0 (len + ys.length)) [.row mt' x.k (rs ++ ys)] []).put (some x.d4) .any [] []).ev x.y) es6=some q6 /\
    K (((((sB'.setBlk hr none).put (some x.d3) (.sl (.O sB.nx) x.k 0 (len + ys.length)) [.row mt' x.k (rs ++ ys)] []).put (some x.d4) .any [] []).setBlk (.O sB.nx) none).setBlk hd (some (.mp x.kd (zE es6 q6 ((((sB'.setBlk hr none).put (some x.d3) (.sl (.O sB.nx) x.k 0 (len + ys.length)) [.row mt' x.k (rs ++ ys)] []).put (some x.d4) .any [] []).ev x.y) mv) none)))):=by
   rintro mv ⟨es6,it6,q6,l6,f6,hK⟩
   rw [lkx,if_neg hn2,if_neg hne,h2] at l6
   cases l6
   rw [hf] at f6
   cases f6
   refine ⟨es',it',q',by rw [lkx,hnx,if_neg hn2,if_neg hne,h2'],by rw [evy,hev];exact hf',?_⟩
   rw [hy',hfin]
   exact hK
  refine .inr ⟨.O sB.nx,_,mt',rs ++ ys,by rw [List.length_append,g2],by rw [lkx,hnx,if_pos rfl],?_⟩
  rcases hK with hK | ⟨e7,hK⟩
  ·exact .inl (move _ hK)
  ·exact .inr ⟨hmt e7,move _ hK⟩
def aN6 (x:MA) (K:XS->Option R) (sB:XS):Option R:=match sB.ev (.tmp x.d2) with
 | .slw h t len=>aDm sB none x.k x.bytes (sB.ev x.ys) (some x.d3) (fun s3=>aRi (s3.put (some x.d4) .any [] []) x.kd ((s3.put (some x.d4) .any [] []).ev x.y) ((s3.put (some x.d4) .any [] []).ev (.tmp x.d3)) K (s3.ev x.m)) (.slw h t len)
 | _=>none
theorem aS2 [YL] {x:MA} {K:XS->Option R} {sB:XS} {r:R} (h:aN6 x K sB=some r) {KP:AState->Prop} (hK:∀ s',K s'=some r->KP s'.er):pY x KP sB.er:=by
 unfold aN6 at h
 split at h
 ·rename_i hd t len hsl
  have e:sB.er.ev (.tmp x.d2)=.sl hd t.n 0 len:=by rw [nP sB rfl,hsl];rfl
  refine ⟨⟨_,_,_,_,e⟩,?_⟩
  rw [e]
  refine aFz (a:=.slw hd t len) (nP sB rfl) h fun s3 h=>?_
  rw [nP s3 rfl]
  have:=aMm (s:=s3.put (some x.d4) .any [] []) (nP _ rfl) (nP _ rfl) h hK
  rw [cG] at this
  exact this
 ·cases h
def aNv (x:MA) (s:XS) (K:XS->Option R):Option R:=match s.ev x.m,xmOk x with
 | .mref h,true=>aKm s x.kd (gC qZ) x.k false (s.ev x.y) (some x.d2) (fun sB=>aN6 x K (sB.put (some x.d1) .any [] [])) (.mref h)
 | _,_=>none
where
 xmOk (x:MA):Bool:=aYu [x.d1,x.d2,x.d3,x.d4] x.y && aYu [x.d1,x.d2,x.d3,x.d4] x.m && !Nat.beq x.d3 x.d4 && !Nat.beq x.d1 x.d2
def bF6 (T:List Sig) (os:List XRO) (x:MA) (s:XS) (K:XS->Option R):Option R:=tG T os s fun s'=>aNv x s' K
theorem aHz:∀ {ks:List IntKind} {cs:List AV},uA ks cs=true->vP cs cs=some true
 | ks,cs,h=>by
  unfold uA at h
  split at h
  ·rfl
  ·rename_i k ks k' n cs
   rw [Bool.and_eq_true] at h
   show (if k'=k' then match vP cs cs with | some b=>some (n == n && b) | none=>none else none)=_
   rw [if_pos rfl,aHz h.2];simp
  ·cases h
theorem aY3 {kd:KD} {a:AV} (h:a.isK kd=true):a.keq a=some true:=by
 unfold AV.isK at h
 split at h
 ·rename_i k k' n
  show (if k'=k' then some (n == n) else none)=_
  rw [if_pos rfl];simp
 ·rename_i t
  show some (t == t)=_
  simp
 ·exact aHz h
 ·cases h
theorem aG8 {key:AV} (hk:key.keq key=some true) (mv:MV):∀ {es:List (AV × MV)},bW key es=some none->bW key (es ++ [(key,mv)])=some (some (es.length,mv))
 | [],_=>by
  show bW key [(key,mv)]=_
  unfold bW
  simp only [hk];rfl
 | e :: es,h=>by
  unfold bW at h
  split at h
  ·cases h
  ·rename_i hq
   split at h
   ·cases h
   ·rename_i h2
    show bW key (e :: (es ++ [(key,mv)]))=_
    unfold bW
    simp only [hq,aG8 hk mv h2];rfl
   ·cases h
  ·cases h
theorem aV5 [YL] {x:MA} {s:XS} {K:XS->Option R} {r:R} (h:aNv x s K=some r) {KP:AState->Prop} (hK:∀ s',K s'=some r->KP s'.er):aQl x s.er KP:=by
 unfold aNv at h
 split at h
 case h_2=>cases h
 rename_i hd hm hok
 unfold aNv.xmOk at hok
 simp only [Bool.and_eq_true] at hok
 obtain ⟨⟨⟨fy,fm⟩,n34⟩,n12⟩:=hok
 have fy:=aDv fy
 have fm:=aDv fm
 have n34:=aPw n34
 have n12:=aPw n12
 have hat:xR s.er x.kd (gC qZ) x.k false x.y (some x.d2) (fun sB=>pY x KP (sB.put (some x.d1) .any [] [])) (.mref hd):=aH1 (a:=.mref hd) (yo:=x.y) (nP s rfl) h fun sB h=>by
  have:=aS2 h hK
  rw [cG] at this
  exact this
 have hmE:s.er.ev x.m=.mref hd:=by rw [nP s rfl,hm];rfl
 have hat':=hat
 obtain ⟨k1,k2,es,it,q,hl,hf,k3⟩:=hat
 refine ⟨hd,es,it,q,hmE,hl,hf,?_⟩
 cases q with
 | some p=>exact hat'
 | none =>
  obtain ⟨k4,mtN,k5⟩:=k3
  refine ⟨k1,.inl ⟨rfl,es,it,none,hl,hf,?_⟩⟩
  have fr:∀ i,s.er.nx <= i->s.er.lk (.O i)=none:=fun i hi=>by
   show (aW s.own i).map XB.er=none
   rw [aAw _ _ hi];rfl
  have hdn:∀ i,s.er.nx <= i->hd ≠ .O i:=fun i hi e=>by rw [e,fr i hi] at hl;cases hl
  have hself:=aY3 k1
  have lkS:∀ (b:Option Blk) (a:AV) (bl:Blk) (y:Hd),(((s.er.setBlk hd b).put (some x.d2) a [bl] []).put (some x.d1) .any [] []).lk y=if y=.O s.er.nx then some bl else if y=hd then b else s.er.lk y:=fun b a bl y=>by
   rw [cA,aV,cN,cA,aV,aF]
   unfold lkN
   cases y with
   | B j=>simp [aD]
   | O j =>
    by_cases e:j=s.er.nx
    ·subst e;simp
    ·have e1:¬ (s.er.nx <= j/\j < s.er.nx + [bl].length):=by simp;omega
     simp only [e1,if_false,aD,Hd.O.injEq,e]
  have eqM:((((s.er.setBlk hd (some (.mp x.kd (zE es none (s.er.ev x.y) (.v (s.er.ev (.const qZ)))) none))).put (some x.d2) (.fl []) [] []).own0 x.d2 x.k).put (some x.d1) .any [] [])=((s.er.setBlk hd (some (.mp x.kd (zE es none (s.er.ev x.y) (.v (s.er.ev (.const qZ)))) none))).put (some x.d2) (.sl (.O s.er.nx) x.k 0 0) [.row true x.k []] []).put (some x.d1) .any [] []:=by
   have hnx:((s.er.setBlk hd (some (.mp x.kd (zE es none (s.er.ev x.y) (.v (s.er.ev (.const qZ)))) none))).put (some x.d2) (.fl []) [] []).nx=s.er.nx:=by
    show (s.er.setBlk hd _).nx + 0=_;rw [aF];rfl
   refine AState.ext2 ?_ (fun y=>?_) ?_
   ·unfold AState.own0
    rw [hnx]
    show upd (upd (upd _ x.d2 _) x.d2 _) x.d1 _=upd (upd _ x.d2 _) x.d1 _
    funext t
    unfold upd
    by_cases e1:t=x.d1
    ·rw [if_pos e1,if_pos e1]
    ·rw [if_neg e1,if_neg e1]
     by_cases e2:t=x.d2
     ·rw [if_pos e2,if_pos e2]
     ·rw [if_neg e2,if_neg e2,if_neg e2]
   ·unfold AState.own0
    rw [hnx,cA,aV,cN,cA,aV,hnx,cA,aV,cN]
    rw [cA,aV,cN,cA,aV,aF]
   ·unfold AState.own0
    show ((s.er.setBlk hd _).nx + 0) + 1 + 0=(s.er.setBlk hd _).nx + 1 + 0
    omega
  have hsn:(((s.er.setBlk hd (some (.mp x.kd es it))).put (some x.d2) (.sl (.O s.er.nx) x.k 0 0) [.row mtN x.k []] []).put (some x.d1) .any [] []).nx=s.er.nx + 1:=by
   show (s.er.setBlk hd _).nx + 1 + 0=_;rw [aF]
  have evo:∀ (b:Option Blk) (a:AV) (bl:Blk) (o:Operand),(∀ d ∈ [x.d1,x.d2,x.d3,x.d4],o ≠ .tmp d)->(((s.er.setBlk hd b).put (some x.d2) a [bl] []).put (some x.d1) .any [] []).ev o=s.er.ev o:=fun b a bl o ho=>by
   rw [iD _ (ho x.d1 (by simp)),iD _ (ho x.d2 (by simp))]
   show evA (s.er.setBlk hd b).env o=_
   rw [aK];rfl
  show pY x KP (AState.put _ _ _ _ _)
  rw [eqM]
  refine aMr (hd:=hd) (hr:=.O s.er.nx) (off:=0) (len:=0) (q:=none) (q':=some (es.length,.v (s.er.ev (.const qZ)))) ?_ ?_ (fun y h1 h2=>?_) ?_ (by rw [lkS,if_pos rfl]) (by rw [lkS,if_pos rfl]) (by rw [lkS,if_neg (hdn _ (Nat.le_refl _)),if_pos rfl]) (by rw [lkS,if_neg (hdn _ (Nat.le_refl _)),if_pos rfl]) ?_ ⟨fy x.d3 (by simp),fy x.d4 (by simp)⟩ ?_ ?_ (fun mv=>?_) ?_ ?_ n34 (fun _=>rfl) k5
  ·show upd (upd (s.er.setBlk hd _).env _ _) _ _=upd (upd (s.er.setBlk hd _).env _ _) _ _
   rw [aK,aK]
  ·show (s.er.setBlk hd _).nx + 1 + 0=(s.er.setBlk hd _).nx + 1 + 0
   rw [aF,aF]
  ·rw [lkS,lkS,if_neg h2,if_neg h1,if_neg h2,if_neg h1]
  ·rw [iD _ (fun e=>n12 (Operand.tmp.inj e).symm)]
   show upd _ x.d2 _ x.d2=_
   unfold upd;rw [if_pos rfl]
  ·rw [evo _ _ _ _ fm];exact hmE
  ·rw [evo _ _ _ _ fy];exact hf
  ·rw [evo _ _ _ _ fy];exact aG8 hself _ hf
  ·rw [evo _ _ _ _ fy]
   show es ++ [(s.er.ev x.y,mv)]=(es ++ [(s.er.ev x.y,_)]).set es.length (s.er.ev x.y,mv)
   simp
  ·rw [hsn,lkS,if_neg (fun e=>Nat.succ_ne_self _ (Hd.O.inj e)),if_neg (fun e=>hdn _ (Nat.le_succ _) e.symm)];exact fr _ (Nat.le_succ _)
  ·rw [hsn,lkS,if_neg (fun e=>Nat.succ_ne_self _ (Hd.O.inj e)),if_neg (fun e=>hdn _ (Nat.le_succ _) e.symm)];exact fr _ (Nat.le_succ _)
end Go.Eng

namespace Go.Eng
open Go.RowKit
variable {R:Type}

instance tupDeq:(ts:List Ty)->DecidableEq (tup ts)
 | []=>inferInstanceAs (DecidableEq Unit)
 | t :: ts=>@instDecidableEqProd _ _ t.deq (tupDeq ts)
instance rtyDeq:(ts:List Ty)->DecidableEq (rty ts)
 | []=>inferInstanceAs (DecidableEq Unit)
 | [t]=>t.deq
 | t :: t2 :: ts=>@instDecidableEqProd _ _ t.deq (rtyDeq (t2 :: ts))
instance rtDeq:(l:List XS)->DecidableEq (RT l)
 | []=>inferInstanceAs (DecidableEq Unit)
 | [m]=>rtyDeq m.tys
 | m :: m2 :: l=>@instDecidableEqSum _ _ (rtyDeq m.tys) (rtDeq (m2 :: l))

inductive XC where
 | skip
 | reg (dr:Bool) (os:List XRO)
 | regS (lst:Bool) (os:List XRO)
 | regP (os:List XRO)
 | regN (os:List XRO)
 | regM (os:List XRO) (x:MA)
 | seq (a b:XC)
 | join (pure:Bool) (m:XS) (a b:XC)
 | cond (c:Operand) (a b:XC)
 | block (id:Nat) (b:XC)
 | loop (m:XS) (b:XC)
 | exit (id:Nat)
 | scope (b:XC)
 | ret
 | regY (os:List XRO)
 | rangeF (N0:Nat) (g:Operand) (ps:Array Tmp) (ca cb:Code) (f N2:Nat) (a b it:XC)
 | bad (rc:RCode)
def XC.rc:XC->RCode
 | .skip=>.skip
 | .reg dr os=>.reg dr (os.map XRO.ro)
 | .regS lst os=>.regS lst (os.map XRO.ro)
 | .regP os=>.regP (os.map XRO.ro)
 | .regN os=>.regN (os.map XRO.ro)
 | .regM os x=>.regM (os.map XRO.ro) x
 | .seq a b=>.seq a.rc (.wkr b.rc)
 | .join _ _ a b=>.seq a.rc (.wkr b.rc)
 | .cond c a b=>.cond c a.rc b.rc
 | .block id b=>.block id b.rc
 | .loop _ b=>.loop b.rc
 | .exit id=>.exit id
 | .scope b=>.scope b.rc
 | .ret=>.ret
 | .regY os=>.regY (os.map XRO.ro)
 | .rangeF N0 g ps ca cb _ _ _ _ _=>.sem N0 (.rangeFunc g ps ca cb)
 | .bad rc=>rc
def XC.Wf (P:Program):XC->Prop
 | .seq a b=>a.Wf P/\b.Wf P
 | .join _ _ a b=>a.Wf P/\b.Wf P
 | .cond _ a b=>a.Wf P/\b.Wf P
 | .block _ b=>b.Wf P
 | .loop _ b=>b.Wf P
 | .scope b=>b.Wf P
 | .rangeF N0 g _ ca cb f N2 a b it => (∃ fl flB fn c2, P.funcs[f]? = some fn /\ fn.body = some c2 /\ (fn.name == "runtime.NumGoroutine") = false /\ P.follows .mixedOrders = true /\ aE P fl N2 c2 = some it.rc /\ aE P flB N0 ca = some a.rc /\ aE P flB N0 cb = some b.rc /\
   fn.results=#[]/\g.inN N0=true/\fn.ntmps=N2)/\a.Wf P/\b.Wf P/\it.Wf P
 | _=>True
def bFx (f:XS->Option R) (K:Exit->XS->Option R):Exit->XS->Option R
 | .normal,s=>f s
 | e,s=>K e s
def aPl (id:Nat) (K:Exit->XS->Option R):Exit->XS->Option R
 | .exit i,s=>match Nat.beq i id with
  | true=>K .normal s
  | false=>K (.exit i) s
 | e,s=>K e s
def aWv (K:Exit->XS->Option R):Exit->XS->Option R
 | .goto _,_=>none
 | e,s=>K e s
def aXy {α β:Type} (a:Option β):Option (β ⊕ α):=match a with
 | some r=>some (.inl r)
 | none=>none
def jn? {α β:Type} (a:Option (β ⊕ α)) (f:α->Option β):Option β:=match a with
 | some (.inl r)=>some r
 | some (.inr x)=>f x
 | none=>none
theorem bCf {α β:Type} {a:Option β} {r:β ⊕ α} (h:aXy a=some r):∃ x,a=some x/\r=.inl x:=by
 unfold aXy at h
 split at h
 ·cases h;exact ⟨_,rfl,rfl⟩
 ·cases h
theorem bHj {α β:Type} {a:Option (β ⊕ α)} {f:α->Option β} {r:β} (h:jn? a f=some r):a=some (.inl r)\/∃ x,a=some (.inr x)/\f x=some r:=by
 unfold jn? at h
 split at h
 ·cases h;exact .inl rfl
 ·exact .inr ⟨_,rfl,h⟩
 ·cases h
def bCe (m:XS) (K:Exit->XS->Option R):Exit->XS->Option (R ⊕ rty m.tys)
 | .normal,s=>rd m s fun v=>some (.inr (toR m.tys v))
 | e,s=>aXy (K e s)
def aUu (m:XS):Exit->XS->Option (rty m.tys)
 | .normal,s=>rd m s fun v=>some (toR m.tys v)
 | _,_=>none
def bDh (s:XS) (c:Operand) (q:Bool):XS:=match c with
 | .tmp t=>nE s t q
 | _=>s
def bA (ts:List Ty) (f:fty ts R->fty ts R):Nat->fty ts R
 | 0=>cuN ts
 | n + 1=>f (bA ts f n)
where cuN (ts:List Ty):fty ts R:=cuF ts fun _=>none
theorem bE4 (ts:List Ty) (v:tup ts):apF ts (bA.cuN (R:=R) ts) v=none:=by
 show apF ts (cuF ts _) v=none
 rw [iB]
structure YX where
 plain:Bool
 f:{R:Type}->[DecidableEq R]->List XV->XS->(Bool->XS->Option R)->Option R
def noX:YX:=⟨true,fun _ _ _=>none⟩
def aHb:YX:=⟨false,fun _ _ _=>none⟩
def aUt (s:XS) (o:XRO):Option (List XV):=match o.ro.op with
 | .callE f args=>match s.ev f with
  | .yld=>some (args.map s.ev)
  | _=>none
 | _=>none
def sE [DecidableEq R] (T:List Sig) (Y:YX):List XRO->XS->(XS->Option R)->Option R
 | [],s,K=>K s
 | o :: r,s,K=>match aUt s o with
  | none=>tG T [o] s fun s'=>sE T Y r s' K
  | some args=>match o.ro.guard with
   | none=>Y.f args s fun c s'=>sE T Y r (s'.put o.ro.dst (.d .b c) [] []) K
   | some (t,want)=>match aY s.env t with
    | .d .b x=>match want with
     | true=>if? x (Y.f args s fun c s'=>sE T Y r (s'.put o.ro.dst (.d .b c) [] []) K) (sE T Y r (s.put o.ro.dst .un [] []) K)
     | false=>if? x (sE T Y r (s.put o.ro.dst .un [] []) K) (Y.f args s fun c s'=>sE T Y r (s'.put o.ro.dst (.d .b c) [] []) K)
    | .un=>sE T Y r (s.put o.ro.dst .un [] []) K
    | _=>none
mutual
def XV.cln:XV->Bool
 | .yld=>false
 | .agg cs=>XV.clnL cs
 | .tup cs=>XV.clnL cs
 | .clo _ cs=>XV.clnL cs
 | _=>true
def XV.clnL:List XV->Bool
 | []=>true
 | v :: r=>v.cln && XV.clnL r
end
def XB.cln:XB->Bool
 | .box cs=>XV.clnL cs
 | _=>true
def aZx:List (Nat × XV)->Bool
 | []=>true
 | (_,v) :: r=>v.cln && aZx r
def aP5:List (Option XB)->Bool
 | []=>true
 | none :: r=>aP5 r
 | some b :: r=>b.cln && aP5 r
def XS.cln (s:XS):Bool:=aZx s.env && aP5 s.bs && aP5 s.own
def aSr (n:Nat):List (Nat × XV)->List (Nat × XV)
 | []=>[]
 | (k,v) :: r=>(n + k,v) :: aSr n r
def aFq (n:Nat):List (Nat × XV)->List (Nat × XV)
 | []=>[]
 | (k,v) :: r=>match Nat.ble n k with
  | true=>(k - n,v) :: aFq n r
  | false=>aFq n r
def ltE (n:Nat):List (Nat × XV)->List (Nat × XV)
 | []=>[]
 | (k,v) :: r=>match Nat.blt k n with
  | true=>(k,v) :: ltE n r
  | false=>ltE n r
def noE (n:Nat):List (Nat × XV)->List (Nat × XV)
 | []=>[]
 | (k,v) :: r=>match Nat.beq k n with
  | true=>noE n r
  | false=>(k,v) :: noE n r
def frE:Nat->Nat->List XV->List (Nat × XV)
 | _,0,_=>[]
 | k,n + 1,[]=>(k,.un) :: frE (k + 1) n []
 | k,n + 1,v :: vs=>(k,v) :: frE (k + 1) n vs
def aR9:List Nat->List XV->List (Nat × XV)->List (Nat × XV)
 | p :: ps,x :: xs,l=>aR9 ps xs ((p,x) :: l)
 | _,_,l=>l
def aOe (N2:Nat) (caps:List XV) (s:XS):XS:={ s with env:=frE 0 N2 (.yld :: caps) ++ (N2,.gst .go) :: aSr (N2 + 1) s.env }
def aGh (N0 N2:Nat) (s:XS):XS:={ s with env:=noE N0 (aFq (N2 + 1) s.env) }
def aRw (N0 N2:Nat) (ps:List Nat) (args:List XV) (s:XS):XS:={ s with env:=ltE N0 (aR9 ps args (aFq (N2 + 1) s.env)) ++ aSr (N0 + 1) s.env }
def rJ (N0 N2:Nat) (c:GX) (s:XS):XS:={ s with env:=(N2,.gst c) :: aFq (N0 + 1) s.env }
def bHa (f:XS->Option R):Exit->XS->Option R
 | .normal,s=>f s
 | _,_=>none
def bdX (N0 N2:Nat) (K:Bool->XS->Option R):Exit->XS->Option R
 | .normal,s=>K true (rJ N0 N2 .go s)
 | .exit id,s=>K false (rJ N0 N2 (.exit id) s)
 | .ret,s=>K false (rJ N0 N2 .ret s)
 | _,_=>none
def aZh (N0 N2:Nat) (K:Exit->XS->Option R) (s:XS):Option R:=match (aGh N0 N2 s).cln,aY s.env N2 with
 | true,.gst .go=>K .normal (aGh N0 N2 s)
 | true,.gst (.exit id)=>K (.exit id) (aGh N0 N2 s)
 | true,.gst .ret=>K .ret (aGh N0 N2 s)
 | _,_=>none
def kIt (N0 N2:Nat) (K:Exit->XS->Option R):Exit->XS->Option R
 | .normal,s=>aZh N0 N2 K s
 | .ret,s=>aZh N0 N2 K s
 | _,_=>none
def eR (N:Nat) (T:List Sig):XC->YX->{R:Type}->[DecidableEq R]->XS->(Exit->XS->Option R)->Option R
 | .skip,_,_,_,s,K=>K .normal s
 | .reg _ os,_,_,_,s,K=>tG T os s (K .normal)
 | .regP os,_,_,_,s,K=>aNe T os s (K .normal)
 | .regS lst os,_,_,_,s,K=>aG6 T (aVu (os.map XRO.ro)) (zQ s os) lst os s (K .normal)
 | .regN os,_,_,_,s,K=>aVn T os s (K .normal)
 | .regM os x,_,_,_,s,K=>bF6 T os x s (K .normal)
 | .regY os,Y,_,_,s,K=>sE T Y os s (K .normal)
 | .rangeF N0 g ps _ _ f N2 a b it,Y,_,_,s,K=>match Y.plain,s.ev g with
  | true,.clo f' caps=>match Nat.beq f f',XV.clnL caps,s.cln,Nat.blt caps.length N2 with
   | true,true,true,true=>eR N T it ⟨false,fun args s K=>match Nat.beq args.length ps.toList.length,aY s.env N2 with
     | true,.gst .go=>eR N T a aHb (aRw N0 N2 ps.toList args s) (bHa fun s'=>eR N T b aHb s' (bdX N0 N2 K))
     | _,_=>none⟩ (aOe N2 caps s) (kIt N0 N2 K)
   | _,_,_,_=>none
  | _,_=>none
 | .seq a b,Y,_,_,s,K=>eR N T a Y s (bFx (fun s'=>eR N T b Y s' K) K)
 | .join true m a b,Y,_,_,s,K=>bd? (eR N T a Y (R:=rty m.tys) s (aUu m)) fun v=>eR N T b Y (m.fill (ofR m.tys v)) K
 | .join false m a b,Y,R,_,s,K=>jn? (eR N T a Y (R:=R ⊕ rty m.tys) s (bCe m K)) fun v=>eR N T b Y (m.fill (ofR m.tys v)) K
 | .cond c a b,Y,_,_,s,K=>w1 s c fun v=>match v with
  | .d .b x=>if? x (eR N T a Y (bDh s c true) K) (eR N T b Y (bDh s c false) K)
  | .ab=>ab? (eR N T a Y s K) (eR N T b Y s K)
  | _=>none
 | .block id b,Y,_,_,s,K=>eR N T b Y s (aPl id K)
 | .loop m b,Y,_,_,s,K=>rd m s fun v=>apF m.tys (bA m.tys (fun rec=>cuF m.tys fun v=>eR N T b Y (m.fill v) (bFx (fun s'=>rd m s' (apF m.tys rec)) K)) N) v
 | .exit id,_,_,_,s,K=>K (.exit id) s
 | .scope b,Y,_,_,s,K=>eR N T b Y s (aWv K)
 | .ret,_,_,_,s,K=>K .ret s
 | .bad _,_,_,_,_,_=>none
theorem aQ3 [YL] {s:XS} {c:Operand} {x q:Bool} (h:s.ev c=.d .b x) (e:x=q):(bDh s c q).er=s.er:=by
 cases c with
 | tmp t=>exact hZ h e
 | _=>rfl
mutual
theorem aXp (x y:YL):∀ {v:XV},v.cln=true->@XV.er x v=@XV.er y v
 | .agg cs,h=>congrArg AV.agg (aDx x y h)
 | .tup cs,h=>congrArg AV.tup (uY x y h)
 | .clo f cs,h=>congrArg (AV.clo f) (uY x y h)
 | .yld,h=>by cases h
 | .d _ _,_ | .any,_ | .un,_ | .ab,_ | .ptr _ _,_ | .ept _ _ _ _,_ | .apt _ _,_ | .pa _ _ _,_ | .epa _ _ _ _ _,_ | .mref _,_ | .itr _ _,_ | .rop _ _ _,_ | .fl _ _,_ | .fln _,_ | .nl _,_ | .sl _ _ _ _,_ | .asl _ _ _,_ | .slw _ _ _,_ | .sc,_ | .c _,_ | .gst _,_=>rfl
theorem bD2 (x y:YL):∀ {v:XV},v.cln=true->@XV.fc x v=@XV.fc y v
 | .agg cs,h=>aDx x y h
 | .tup cs,h=>congrArg (fun l=>[AV.tup l]) (uY x y h)
 | .clo f cs,h=>congrArg (fun l=>[AV.clo f l]) (uY x y h)
 | .yld,h=>by cases h
 | .d _ _,_ | .any,_ | .un,_ | .ab,_ | .ptr _ _,_ | .ept _ _ _ _,_ | .apt _ _,_ | .pa _ _ _,_ | .epa _ _ _ _ _,_ | .mref _,_ | .itr _ _,_ | .rop _ _ _,_ | .fl _ _,_ | .fln _,_ | .nl _,_ | .sl _ _ _ _,_ | .asl _ _ _,_ | .slw _ _ _,_ | .sc,_ | .c _,_ | .gst _,_=>rfl
theorem uY (x y:YL):∀ {l:List XV},XV.clnL l=true->@XV.erL x l=@XV.erL y l
 | [],_=>rfl
 | v :: l,h=>by
  have h:(v.cln && XV.clnL l)=true:=h
  rw [Bool.and_eq_true] at h
  show @XV.er x v :: @XV.erL x l=@XV.er y v :: @XV.erL y l
  rw [aXp x y h.1,uY x y h.2]
theorem aDx (x y:YL):∀ {l:List XV},XV.clnL l=true->@XV.fcL x l=@XV.fcL y l
 | [],_=>rfl
 | v :: l,h=>by
  have h:(v.cln && XV.clnL l)=true:=h
  rw [Bool.and_eq_true] at h
  show @XV.fc x v ++ @XV.fcL x l=@XV.fc y v ++ @XV.fcL y l
  rw [bD2 x y h.1,aDx x y h.2]
end
theorem aNn (x y:YL) (i:Nat):∀ {l:List (Nat × XV)},aZx l=true->@XV.er x (aY l i)=@XV.er y (aY l i)
 | [],_=>rfl
 | (k,v) :: l,h=>by
  have h:(v.cln && aZx l)=true:=h
  rw [Bool.and_eq_true] at h
  show @XV.er x (if Nat.beq i k=true then v else aY l i)=@XV.er y (if Nat.beq i k=true then v else aY l i)
  split
  ·exact aXp x y h.1
  ·exact aNn x y i h.2
theorem bDj (x y:YL):∀ {b:XB},b.cln=true->@XB.er x b=@XB.er y b
 | .box cs,h=>congrArg Blk.box (aDx x y h)
 | .row _ _ _,_ | .arr _ _ _ _,_ | .mp _ _ _ _ _ _,_ | .it,_=>rfl
theorem aAh (x y:YL):∀ {l:List (Option XB)} {i:Nat},aP5 l=true->(aW l i).map (@XB.er x)=(aW l i).map (@XB.er y)
 | [],_,_=>rfl
 | none :: l,0,_=>rfl
 | some b :: l,0,h=>by
  have h:(b.cln && aP5 l)=true:=h
  rw [Bool.and_eq_true] at h
  show some (@XB.er x b)=some (@XB.er y b)
  rw [bDj x y h.1]
 | none :: l,i + 1,h=>aAh x y (l:=l) (i:=i) h
 | some b :: l,i + 1,h=>by
  have h:(b.cln && aP5 l)=true:=h
  rw [Bool.and_eq_true] at h
  exact aAh x y (l:=l) (i:=i) h.2
theorem aKe (x y:YL) {s:XS} (h:s.cln=true):@XS.er x s=@XS.er y s:=by
 unfold XS.cln at h
 rw [Bool.and_eq_true,Bool.and_eq_true] at h
 unfold XS.er
 congr 1
 ·funext i;exact aNn x y i h.1.1
 ·funext i;exact aAh x y h.1.2
 ·funext i;exact aAh x y h.2
theorem bDb [YL] {v:XV} {l:Nat} (h:v.er=.yld l):v=.yld:=by
 cases v with
 | yld=>rfl
 | d t x=>exfalso;cases t <;> cases h
 | _=>exfalso;cases h
theorem bFi [YL] {s:XS} {o:XRO} {args:List XV} (h:aUt s o=some args):yst s.er o.ro=some (YL.l,XV.erL args):=by
 unfold aUt at h
 unfold yst
 split at h
 ·rename_i f as e
  rw [e]
  show (match s.er.ev f with | .yld l=>some (l,as.map s.er.ev) | _=>none)=_
  split at h
  ·rename_i e2
   cases h
   have:s.er.ev f=.yld YL.l:=by rw [nP s rfl,e2];rfl
   rw [this]
   show some (YL.l,as.map s.er.ev)=_
   congr 2
   induction as with
   | nil=>rfl
   | cons a as ih =>
    show s.er.ev a :: as.map s.er.ev=(s.ev a).er :: XV.erL (as.map s.ev)
    rw [nP s rfl]
    congr 1
    clear e ih this
    induction as with
    | nil=>rfl
    | cons b as ih =>
     show s.er.ev b :: as.map s.er.ev=(s.ev b).er :: XV.erL (as.map s.ev)
     rw [nP s rfl,ih]
  ·cases h
 ·cases h
theorem bF1 [YL] {s:XS} {o:XRO} (h:aUt s o=none):yst s.er o.ro=none:=by
 unfold aUt at h
 unfold yst
 split
 ·rename_i f as e
  rw [e] at h
  simp only at h
  split
  ·rename_i l e2
   rw [nP s rfl] at e2
   rw [bDb e2] at h
   cases h
  ·rfl
 ·rfl
def YRel [YL] (Yx:YX) (Y:Yh):Prop:=(Yx.plain=true->Y.plain=true)/\∀ {R:Type} [DecidableEq R] {r:R} {args:List XV} {s:XS} {K:Bool->XS->Option R},Yx.f args s K=some r->∀ {KP:Bool->AState->Prop},(∀ c s',K c s'=some r->KP c s'.er)->Y.f YL.l (XV.erL args) s.er KP
theorem YRel.no [YL]:YRel noX noY:=⟨fun h=>h,fun h=>by cases h⟩
theorem YRel.body [YL]:YRel aHb aCf:=⟨fun h=>h,fun h=>by cases h⟩
theorem aAe [YL] {P:Program} {T:List Sig} (hT:pD P T) {Yx:YX} {Y:Yh} (hY:YRel Yx Y) [DecidableEq R] {r:R}:∀ {os:List XRO} {s:XS} {K:XS->Option R},sE T Yx os s K=some r->∀ {KP:AState->Prop},(∀ s',K s'=some r->KP s'.er)->oV P Y (os.map XRO.ro) s.er KP
 | [],s,K,h,KP,hK=>hK _ h
 | o :: os,s,K,h,KP,hK=>by
  unfold sE at h
  show oV P Y (o.ro :: os.map XRO.ro) s.er KP
  unfold oV
  split at h
  ·rename_i e
   rw [bF1 e]
   exact fY (os:=[o]) hT h fun s' h=>aAe hT hY h hK
  ·rename_i args e
   rw [bFi e]
   have go:∀ {h0:Unit},(Yx.f args s fun c s'=>sE T Yx os (s'.put o.ro.dst (.d .b c) [] []) K)=some r->Y.f YL.l (XV.erL args) s.er fun c s'=>oV P Y (os.map XRO.ro) (s'.put o.ro.dst (.D (.B c)) [] []) KP:=fun h=>hY.2 h fun c s' h=>by
    have:=aAe hT hY h hK
    rw [cG] at this
    exact this
   have un:∀ {h0:Unit},sE T Yx os (s.put o.ro.dst .un [] []) K=some r->oV P Y (os.map XRO.ro) (s.er.put o.ro.dst .un [] []) KP:=fun h=>by
    have:=aAe hT hY h hK
    rw [cG] at this
    exact this
   simp only
   split at h
   ·rename_i hg
    rw [hg]
    exact go (h0:=()) h
   ·rename_i t want hg
    rw [hg]
    simp only
    split at h
    ·rename_i x hx
     have ht:s.er.env t=.D (.B x):=by show (aY s.env t).er=_;rw [hx];rfl
     rw [ht]
     split at h
     ·rcases aIt h with ⟨e,h⟩ | ⟨e,h⟩
      ·exact ⟨fun _=>go (h0:=()) h,fun h=>absurd e h⟩
      ·exact ⟨fun h=>Bool.noConfusion (e.symm.trans h),fun _=>un (h0:=()) h⟩
     ·rcases aIt h with ⟨e,h⟩ | ⟨e,h⟩
      ·exact ⟨fun h=>Bool.noConfusion (e.symm.trans h),fun _=>un (h0:=()) h⟩
      ·exact ⟨fun _=>go (h0:=()) h,fun h=>absurd e h⟩
    ·rename_i hx
     have ht:s.er.env t=.D (.C (.tuple #[])):=by show (aY s.env t).er=_;rw [hx];rfl
     rw [ht]
     exact un (h0:=()) h
    ·cases h
theorem aDt (n t:Nat):∀ l,aY (aSr n l) t=if n <= t then aY l (t - n) else .any
 | []=>by show XV.any=if _ then XV.any else _;split <;> rfl
 | (k,v) :: l=>by
  show (if Nat.beq t (n + k)=true then v else aY (aSr n l) t)=if n <= t then (if Nat.beq (t - n) k=true then v else aY l (t - n)) else .any
  rw [aDt n t l]
  by_cases h:n <= t
  ·rw [if_pos h,if_pos h]
   have:Nat.beq t (n + k)=Nat.beq (t - n) k:=by
    rw [Bool.eq_iff_iff,Nat.beq_eq,Nat.beq_eq];omega
   rw [this]
  ·rw [if_neg h,if_neg h,if_neg]
   rw [Nat.beq_eq];omega
theorem yF (n t:Nat):∀ l,aY (aFq n l) t=aY l (n + t)
 | []=>rfl
 | (k,v) :: l=>by
  show aY (match Nat.ble n k with | true=>(k - n,v) :: aFq n l | false=>aFq n l) t=if Nat.beq (n + t) k=true then v else aY l (n + t)
  cases h:Nat.ble n k with
  | true =>
   show (if Nat.beq t (k - n)=true then v else aY (aFq n l) t)=_
   have h:=Nat.le_of_ble_eq_true h
   have:Nat.beq t (k - n)=Nat.beq (n + t) k:=by
    rw [Bool.eq_iff_iff,Nat.beq_eq,Nat.beq_eq];omega
   rw [this,yF n t l]
  | false =>
   show aY (aFq n l) t=_
   rw [yF n t l,if_neg]
   intro e
   have:=Nat.eq_of_beq_eq_true e
   have:Nat.ble n k=true:=Nat.ble_eq_true_of_le (by omega)
   rw [h] at this;cases this
theorem aJ9 (n t:Nat):∀ l,aY (noE n l) t=if t=n then .any else aY l t
 | []=>by show XV.any=if _ then _ else XV.any;split <;> rfl
 | (k,v) :: l=>by
  show aY (match Nat.beq k n with | true=>noE n l | false=>(k,v) :: noE n l) t=if t=n then .any else (if Nat.beq t k=true then v else aY l t)
  cases h:Nat.beq k n with
  | true =>
   have h:=Nat.eq_of_beq_eq_true h
   show aY (noE n l) t=_
   rw [aJ9 n t l]
   by_cases e:t=n
   ·rw [if_pos e,if_pos e]
   ·rw [if_neg e,if_neg e,if_neg (fun q=>e ((Nat.eq_of_beq_eq_true q).trans h))]
  | false =>
   show (if Nat.beq t k=true then v else aY (noE n l) t)=_
   rw [aJ9 n t l]
   by_cases e:t=n
   ·rw [if_pos e,if_pos e,if_neg]
    intro q
    have:=Nat.eq_of_beq_eq_true q
    rw [<- this,e,Nat.beq_refl] at h;cases h
   ·rw [if_neg e,if_neg e]
theorem aKf (n t:Nat) (r:List (Nat × XV)) (hr:t <= n->aY r t=.any):∀ l,aY (ltE n l ++ r) t=if t < n then aY l t else aY r t
 | []=>by
  show aY r t=if t < n then XV.any else _
  split
  ·exact hr (by omega)
  ·rfl
 | (k,v) :: l=>by
  show aY ((match Nat.blt k n with | true=>(k,v) :: ltE n l | false=>ltE n l) ++ r) t=if t < n then (if Nat.beq t k=true then v else aY l t) else _
  cases h:Nat.blt k n with
  | true =>
   show (if Nat.beq t k=true then v else aY (ltE n l ++ r) t)=_
   rw [aKf n t r hr l]
   have h:=Nat.le_of_ble_eq_true h
   by_cases e:t < n
   ·rw [if_pos e,if_pos e]
   ·rw [if_neg e,if_neg e,if_neg]
    intro q
    have:=Nat.eq_of_beq_eq_true q
    omega
  | false =>
   show aY (ltE n l ++ r) t=_
   rw [aKf n t r hr l]
   by_cases e:t < n
   ·rw [if_pos e,if_pos e,if_neg]
    intro q
    have:=Nat.eq_of_beq_eq_true q
    have:Nat.blt k n=true:=Nat.ble_eq_true_of_le (by omega)
    rw [h] at this;cases this
   ·rw [if_neg e,if_neg e]
theorem aJ8 (t:Nat) (r:List (Nat × XV)):∀ (n k:Nat) (vs:List XV),aY (frE k n vs ++ r) t=if k <= t/\t < k + n then vs.getD (t - k) .un else aY r t
 | 0,k,vs=>by
  show aY r t=_
  rw [if_neg (by omega)]
 | n + 1,k,[]=>by
  show (if Nat.beq t k=true then XV.un else aY (frE (k + 1) n [] ++ r) t)=_
  rw [aJ8 t r n (k + 1) []]
  by_cases e:t=k
  ·rw [if_pos (by rw [e,Nat.beq_refl]),if_pos (by omega)];simp
  ·rw [if_neg (fun q=>e (Nat.eq_of_beq_eq_true q))]
   by_cases h:k + 1 <= t/\t < k + 1 + n
   ·rw [if_pos h,if_pos (by omega)];simp
   ·rw [if_neg h,if_neg (by omega)]
 | n + 1,k,v :: vs=>by
  show (if Nat.beq t k=true then v else aY (frE (k + 1) n vs ++ r) t)=_
  rw [aJ8 t r n (k + 1) vs]
  by_cases e:t=k
  ·rw [if_pos (by rw [e,Nat.beq_refl]),if_pos (by omega),e,Nat.sub_self];rfl
  ·rw [if_neg (fun q=>e (Nat.eq_of_beq_eq_true q))]
   by_cases h:k + 1 <= t/\t < k + 1 + n
   ·rw [if_pos h,if_pos (by omega)]
    have:t - k=(t - (k + 1)) + 1:=by omega
    rw [this];rfl
   ·rw [if_neg h,if_neg (by omega)]
theorem aLe [YL]:∀ (l:List XV) (i:Nat),(l.getD i .un).er=(XV.erL l).getD i .un
 | [],i=>by simp only [XV.erL,List.getD_nil];rfl
 | v :: l,0=>rfl
 | v :: l,i + 1=>by
  have:=aLe l i
  simpa [XV.erL] using this
theorem aN1 [YL] (t:Nat):∀ (ps:List Nat) (xs:List XV) (l:List (Nat × XV)),(aY (aR9 ps xs l) t).er=aCy ps (XV.erL xs) (fun i=>(aY l i).er) t
 | [],xs,l=>by cases xs <;> rfl
 | p :: ps,[],l=>rfl
 | p :: ps,x :: xs,l=>by
  show (aY (aR9 ps xs ((p,x) :: l)) t).er=aCy ps (XV.erL xs) (upd (fun i=>(aY l i).er) p x.er) t
  rw [aN1 t ps xs]
  congr 1
  funext i
  show (if Nat.beq i p=true then x else aY l i).er=if i=p then x.er else (aY l i).er
  by_cases e:i=p
  ·rw [if_pos e,if_pos (by rw [e,Nat.beq_refl])]
  ·rw [if_neg e,if_neg (fun q=>e (Nat.eq_of_beq_eq_true q))]
theorem aKu [YL] {s:XS} {env:List (Nat × XV)} {f:Nat->AV} (h:∀ t,(aY env t).er=f t):({ s with env:=env }:XS).er=s.er.withEnv f:=by
 unfold XS.er AState.withEnv
 congr 1
 funext t;exact h t
theorem aT8 [YL] (N2:Nat) (caps:List XV) (s:XS):(aOe N2 caps s).er=aAt N2 YL.l (XV.erL caps) s.er:=aKu fun t=>by
 rw [aJ8]
 show _=if t < N2 then _ else if t=N2 then _ else (aY s.env (t - N2 - 1)).er
 by_cases h:t < N2
 ·rw [if_pos (by omega),if_pos h,Nat.sub_zero,aLe];rfl
 ·rw [if_neg (by omega),if_neg h]
  show (if Nat.beq t N2=true then XV.gst .go else aY (aSr (N2 + 1) s.env) t).er=_
  by_cases e:t=N2
  ·rw [if_pos e,if_pos (by rw [e,Nat.beq_refl])];rfl
  ·rw [if_neg e,if_neg (fun q=>e (Nat.eq_of_beq_eq_true q)),aDt,if_pos (by omega),Nat.sub_add_eq]
theorem aT1 [YL] (N0 N2:Nat) (s:XS):(aGh N0 N2 s).er=uZ N0 N2 s.er:=aKu fun t=>by
 rw [aJ9,yF]
 show _=if t=N0 then AV.any else (aY s.env (N2 + 1 + t)).er
 split <;> rfl
theorem aOt [YL] (N0 N2:Nat) (ps:List Nat) (args:List XV) (s:XS):(aRw N0 N2 ps args s).er=aJn N0 N2 ps (XV.erL args) s.er:=aKu fun t=>by
 rw [aKf _ _ _ (fun h=>by rw [aDt,if_neg (by omega)])]
 show _=if t < N0 then _ else if t=N0 then AV.any else (aY s.env (t - N0 - 1)).er
 by_cases h:t < N0
 ·rw [if_pos h,if_pos h,aN1]
  congr 1
  funext i
  rw [yF];rfl
 ·rw [if_neg h,if_neg h,aDt]
  by_cases e:t=N0
  ·rw [if_pos e,if_neg (by omega)];rfl
  ·rw [if_neg e,if_pos (by omega),Nat.sub_add_eq]
theorem wX [YL] (N0 N2:Nat) (c:GX) (s:XS):(rJ N0 N2 c s).er=zH N0 N2 c.code s.er:=aKu fun t=>by
 show (if Nat.beq t N2=true then XV.gst c else aY (aFq (N0 + 1) s.env) t).er=if t=N2 then AV.gst c.code else (aY s.env (N0 + 1 + t)).er
 by_cases e:t=N2
 ·rw [if_pos e,if_pos (by rw [e,Nat.beq_refl])];rfl
 ·rw [if_neg e,if_neg (fun q=>e (Nat.eq_of_beq_eq_true q)),yF]
theorem aI4 [YL]:∀ (l:List XV),(XV.erL l).length=l.length
 | []=>rfl
 | _ :: l=>congrArg (· + 1) (aI4 l)
def aFl (P:Program) (N:Nat) (T:List Sig) (c:XC):Prop:=∀ (y:YL) (Yx:YX) (Y:Yh),YRel Yx Y->∀ {R:Type} [DecidableEq R] {r:R} {s:XS} {K:Exit->XS->Option R},eR N T c Yx s K=some r->∀ {Q:Exit->AState->Prop},(∀ e s',K e s'=some r->Q e s'.er)->eZ P Y c.rc Q s.er
theorem aTg {P:Program} {N:Nat} {T:List Sig} {N0:Nat} {g:Operand} {ps:Array Tmp} {ca cb:Code} {f N2:Nat} {a b it:XC} (hw:XC.Wf P (.rangeF N0 g ps ca cb f N2 a b it)) (ha:aFl P N T a) (hb:aFl P N T b) (hi:aFl P N T it):aFl P N T (.rangeF N0 g ps ca cb f N2 a b it):=fun y Yx Y hY R _ r s K h Q hK=>by
 obtain ⟨⟨fl,flB,fn,c2,q1,q2,q3,q4,q5,q6,q7,q8,q9,q10⟩,_⟩:=hw
 subst q10
 unfold eR at h
 split at h
 case h_2=>cases h
 rename_i f' caps hp hg
 split at h
 case h_2=>cases h
 rename_i hf hcc hcl hlt
 have hf:=Nat.eq_of_beq_eq_true hf
 subst hf
 have hlt:caps.length + 1 <= fn.ntmps:=Nat.le_of_ble_eq_true hlt
 refine aX7 (f:=f) (fn:=fn) (caps:=XV.erL caps) fl flB q1 q2 q3 q4 q5 q6 q7 q8 q9 (by rw [nP s rfl,hg];rfl) (by rw [aI4];exact hlt) (hY.1 hp) fun l=>?_
 obtain ⟨y2,hy2⟩:∃ y2:YL,y2=⟨l⟩:=⟨_,rfl⟩
 have hl:@YL.l y2=l:=by rw [hy2];rfl
 have e1:aAt fn.ntmps l (@XV.erL y caps) (@XS.er y s)=@XS.er y2 (aOe fn.ntmps caps s):=by
  rw [@aT8 y2,hl]
  exact congr (congrArg _ (uY y y2 hcc)) (aKe y y2 hcl)
 rw [e1]
 refine hi y2 _ (yIt P a.rc b.rc N0 fn.ntmps l ps.toList) ⟨(fun h=>Bool.noConfusion h),fun {R} _ {r args s K} h KP hK=>?_⟩ h fun e s' h=>?_
 ·simp only at h
  split at h
  case h_2=>cases h
  rename_i h1 h2
  refine ⟨hl,by rw [aI4];exact Nat.eq_of_beq_eq_true h1,by show (aY s.env fn.ntmps).er=_;rw [h2];rfl,?_⟩
  rw [<- @aOt y2]
  refine ha y2 aHb aCf (@YRel.body y2) h fun e s' h=>?_
  cases e with
  | normal =>
   refine hb y2 aHb aCf (@YRel.body y2) (show eR N T b aHb s' (bdX N0 fn.ntmps K)=some r from h) fun e s' h=>?_
   cases e with
   | normal =>
    have:=hK _ _ (show K true (rJ N0 fn.ntmps .go s')=some r from h)
    rw [@wX y2] at this
    exact this
   | exit id =>
    have:=hK _ _ (show K false (rJ N0 fn.ntmps (.exit id) s')=some r from h)
    rw [@wX y2] at this
    exact this
   | ret =>
    have:=hK _ _ (show K false (rJ N0 fn.ntmps .ret s')=some r from h)
    rw [@wX y2] at this
    exact this
   | _=>cases h
  | _=>cases h
 ·have key:∀ {h0:Unit},aZh N0 fn.ntmps K s'=some r->aLa Q (uZ N0 fn.ntmps (@XS.er y2 s')) ((@XS.er y2 s').env fn.ntmps):=fun h=>by
   unfold aZh at h
   rw [<- @aT1 y2]
   show aLa Q _ (@XV.er y2 (aY s'.env fn.ntmps))
   split at h
   ·rename_i hc hq
    rw [hq,<- aKe y y2 hc]
    exact hK _ _ h
   ·rename_i hc hq
    rw [hq,<- aKe y y2 hc]
    exact hK _ _ h
   ·rename_i hc hq
    rw [hq,<- aKe y y2 hc]
    exact hK _ _ h
   ·cases h
  cases e with
  | normal=>exact ⟨.inl rfl,key (h0:=()) h⟩
  | ret=>exact ⟨.inr rfl,key (h0:=()) h⟩
  | _=>cases h
theorem cT {P:Program} {N:Nat} {T:List Sig} (hT:pD P T):∀ {c:XC},c.Wf P->aFl P N T c
 | .skip,hw,y,Yx,Y,hY,R,_,r,s,K,h,Q,hK=>hK _ _ h
 | .reg _ os,hw,y,Yx,Y,hY,R,_,r,s,K,h,Q,hK=>fY hT h (KP:=Q .normal) fun s' h=>hK _ _ h
 | .regP os,hw,y,Yx,Y,hY,R,_,r,s,K,h,Q,hK=>aEh hT h (KP:=Q .normal) fun s' h=>hK _ _ h
 | .regN os,hw,y,Yx,Y,hY,R,_,r,s,K,h,Q,hK=>aU7 hT h (KP:=Q .normal) fun s' h=>hK _ _ h
 | .regM os x,hw,y,Yx,Y,hY,R,_,r,s,K,h,Q,hK=>fY hT (show tG T os s (fun s'=>aNv x s' (K .normal))=some r from h) (KP:=fun s'=>aQl x s' (Q .normal)) fun s' h=>aV5 h fun s' h=>hK _ _ h
 | .regS _ os,hw,y,Yx,Y,hY,R,_,r,s,K,h,Q,hK=>⟨zQ s os,yW hT h (KP:=Q .normal) fun s' h=>hK _ _ h⟩
 | .regY os,hw,y,Yx,Y,hY,R,_,r,s,K,h,Q,hK=>aAe hT hY h (KP:=Q .normal) fun s' h=>hK _ _ h
 | .rangeF ..,hw,y,Yx,Y,hY,R,_,r,s,K,h,Q,hK=>aTg hw (cT hT hw.2.1) (cT hT hw.2.2.1) (cT hT hw.2.2.2) y Yx Y hY h hK
 | .seq a b,hw,y,Yx,Y,hY,R,_,r,s,K,h,Q,hK=>by
  refine cT hT (c:=a) hw.1 y Yx Y hY h (Q:=aCw (eZ P Y (.wkr b.rc) Q) Q) fun e s' h=>?_
  cases e with
  | normal=>exact ⟨s'.er,Wk.refl _,cT hT (c:=b) hw.2 y Yx Y hY h hK⟩
  | _=>exact hK _ _ h
 | .join true m a b,hw,y,Yx,Y,hY,R,_,r,s,K,h,Q,hK=>by
  obtain ⟨x,h1,h2⟩:=aWn (show bd? (eR N T a Yx (R:=rty m.tys) s (aUu m)) (fun v=>eR N T b Yx (m.fill (ofR m.tys v)) K)=some r from h)
  refine cT hT (c:=a) hw.1 y Yx Y hY h1 (Q:=aCw (eZ P Y (.wkr b.rc) Q) Q) fun e s' h=>?_
  cases e with
  | normal =>
   obtain ⟨v,hv,hw'⟩:=aL6 (show rd m s' _=some x from h)
   cases hv
   rw [aAf] at h2
   exact ⟨_,hw',cT hT (c:=b) hw.2 y Yx Y hY h2 hK⟩
  | _=>cases h
 | .join false m a b,hw,y,Yx,Y,hY,R,_,r,s,K,h,Q,hK=>by
  rcases bHj (show jn? (eR N T a Yx (R:=R ⊕ rty m.tys) s (bCe m K)) (fun v=>eR N T b Yx (m.fill (ofR m.tys v)) K)=some r from h) with h1 | ⟨x,h1,h2⟩
  ·refine cT hT (c:=a) hw.1 y Yx Y hY h1 (Q:=aCw (eZ P Y (.wkr b.rc) Q) Q) fun e s' h=>?_
   cases e with
   | normal =>
    obtain ⟨v,hv,_⟩:=aL6 (show rd m s' _=_ from h)
    cases hv
   | _ =>
    obtain ⟨y,hy,e⟩:=bCf (show aXy _=_ from h)
    cases e
    exact hK _ _ hy
  ·refine cT hT (c:=a) hw.1 y Yx Y hY h1 (Q:=aCw (eZ P Y (.wkr b.rc) Q) Q) fun e s' h=>?_
   cases e with
   | normal =>
    obtain ⟨v,hv,hw'⟩:=aL6 (show rd m s' _=_ from h)
    cases hv
    rw [aAf] at h2
    exact ⟨_,hw',cT hT (c:=b) hw.2 y Yx Y hY h2 hK⟩
   | _ =>
    obtain ⟨y,hy,e⟩:=bCf (show aXy _=_ from h)
    cases e
 | .cond c a b,hw,y,Yx,Y,hY,R,_,r,s,K,h,Q,hK=>by
  obtain ⟨h,e1⟩:=aI (show w1 s c _=some r from h)
  show aRa (eZ P Y a.rc Q s.er) (eZ P Y b.rc Q s.er) (s.er.ev c)
  rw [e1]
  split at h
  ·rename_i x hx
   rw [hx]
   rcases aIt h with ⟨e,h⟩ | ⟨e,h⟩
   ·have:=cT hT (c:=a) hw.1 y Yx Y hY h hK
    rw [aQ3 hx e] at this
    exact ⟨fun _=>this,fun h=>Bool.noConfusion (e.symm.trans h)⟩
   ·have:=cT hT (c:=b) hw.2 y Yx Y hY h hK
    rw [aQ3 hx e] at this
    exact ⟨fun h=>Bool.noConfusion (e.symm.trans h),fun _=>this⟩
  ·rename_i hx
   rw [hx]
   obtain ⟨h1,h2⟩:=bG7 h
   exact ⟨cT hT (c:=a) hw.1 y Yx Y hY h1 hK,cT hT (c:=b) hw.2 y Yx Y hY h2 hK⟩
  ·cases h
 | .block id b,hw,y,Yx,Y,hY,R,_,r,s,K,h,Q,hK=>by
  refine cT hT (c:=b) hw y Yx Y hY (show eR N T b Yx s (aPl id K)=some r from h) (Q:=aKk id Q) fun e s' h=>?_
  cases e with
  | exit i =>
   unfold aPl at h
   simp only at h
   show if i=id then Q .normal s'.er else Q (.exit i) s'.er
   split at h
   ·rename_i hb
    rw [if_pos (Nat.eq_of_beq_eq_true hb)];exact hK _ _ h
   ·rename_i hb
    rw [if_neg (fun e=>by rw [e] at hb;simp at hb)];exact hK _ _ h
  | _=>exact hK _ _ h
 | .loop m b,hw,y,Yx,Y,hY,R,_,r,s,K,h,Q,hK=>by
  obtain ⟨v0,h,hw'⟩:=aL6 (show rd m s _=some r from h)
  refine .inl ⟨fun n s1=>∃ v,apF m.tys (bA m.tys (fun rec=>cuF m.tys fun v=>eR N T b Yx (m.fill v) (bFx (fun s'=>rd m s' (apF m.tys rec)) K)) n) v=some r/\s1=(m.fill v).er,N,_,hw',⟨v0,h,rfl⟩,?_⟩
  rintro n s1 ⟨v,hv,rfl⟩
  cases n with
  | zero=>rw [show bA m.tys _ 0=bA.cuN m.tys from rfl,bE4] at hv;cases hv
  | succ n =>
   rw [show bA m.tys _ (n + 1)=cuF m.tys _ from rfl,iB] at hv
   refine cT hT (c:=b) hw y Yx Y hY hv (Q:=aCw _ Q) fun e s' h=>?_
   cases e with
   | normal =>
    obtain ⟨v',h,hw'⟩:=aL6 (show rd m s' _=some r from h)
    exact ⟨n,_,Nat.lt_succ_self n,hw',v',h,rfl⟩
   | _=>exact hK _ _ h
 | .exit id,hw,y,Yx,Y,hY,R,_,r,s,K,h,Q,hK=>hK _ _ h
 | .scope b,hw,y,Yx,Y,hY,R,_,r,s,K,h,Q,hK=>by
  refine cT hT (c:=b) hw y Yx Y hY (show eR N T b Yx s (aWv K)=some r from h) (Q:=aR4 Q) fun e s' h=>?_
  cases e with
  | goto _=>cases h
  | _=>exact hK _ _ h
 | .ret,hw,y,Yx,Y,hY,R,_,r,s,K,h,Q,hK=>hK _ _ h
 | .bad _,hw,y,Yx,Y,hY,R,_,r,s,K,h,Q,hK=>by cases h

def xS:List RO->List (Option Ty)->List XRO
 | [],_=>[]
 | ro :: r,[]=>⟨ro,none⟩ :: xS r []
 | ro :: r,t :: ts=>⟨ro,t⟩ :: xS r ts
theorem pJ:∀ (r:List RO) (ts:List (Option Ty)),(xS r ts).map XRO.ro=r
 | [],_=>rfl
 | ro :: r,[]=>congrArg (ro :: ·) (pJ r [])
 | ro :: r,_ :: ts=>congrArg (ro :: ·) (pJ r ts)
def pTy:List Ty->Ty
 | []=>.u
 | [t]=>t
 | t :: r=>.p t (pTy r)
def bGv (f:TypeId->Option Ty):List TypeId->Option (List Ty)
 | []=>some []
 | t :: r=>match f t,bGv f r with
  | some a,some l=>some (a :: l)
  | _,_=>none
def aN8 (P:Program):Nat->TypeId->Option Ty
 | 0,_=>none
 | n + 1,t=>match P.underlying t with
  | some (.int k)=>some (.i k)
  | some .bool=>some .b
  | some .string=>some .s
  | some (.slice e)=>(aN8 P n e).map .sl
  | some (.array len e)=>match aN8 P n e with
   | some (.i k)=>some (.ar len k)
   | some (.ar m k)=>some (.ar (len * m) k)
   | some t=>some (.w (pTy (List.replicate len t)))
   | none=>none
  | some (.struct fs)=>(bGv (aN8 P n) (fs.toList.map (·.type))).map fun l=>.w (pTy l)
  | _=>none
def aBl (P:Program) (o:Oper):Option Ty:=match o.op with
 | .alloc T=>aN8 P 20 T
 | .makeMap T _=>match P.underlying T with
  | some (.map k e)=>match aN8 P 20 k,aN8 P 20 e with
   | some k,some (.sl t)=>some (.p k (.o t))
   | some k,some t=>some (.p k t)
   | _,_=>none
  | _=>none
 | _=>aN8 P 20 o.type
structure Ann where
 at_:Nat
 pure:Bool
 m:XS
def aLn:List Ann->Nat->Option Ann
 | [],_=>none
 | a :: r,n=>match Nat.beq a.at_ n with
  | true=>some a
  | false=>aLn r n
def XC.cnt:XC->Nat
 | .seq a b=>a.cnt + b.cnt + 1
 | .join _ _ a b=>a.cnt + b.cnt + 1
 | .cond _ a b=>a.cnt + b.cnt
 | .block _ b=>b.cnt
 | .loop _ b=>b.cnt + 1
 | .scope b=>b.cnt
 | .bad _=>1
 | _=>0
def xs0:XS:=⟨[],[],[]⟩
def jJ (P:Program):Code->RCode->XC
 | .skip,.skip=>.skip
 | .region _ ops _,.reg dr ros=>.reg dr (xS ros (ops.toList.map (aBl P)))
 | .region _ ops _,.regP ros=>.regP (xS ros (ops.toList.map (aBl P)))
 | .region _ ops _,.regS lst ros=>.regS lst (xS ros (ops.toList.map (aBl P)))
 | .region _ ops _,.regN ros=>.regN (xS ros (ops.toList.map (aBl P)))
 | .region _ ops _,.regY ros=>.regY (xS ros (ops.toList.map (aBl P)))
 | .region _ ops _,.regM ros x=>.regM (xS ros (ops.toList.map (aBl P))) x
 | .seq a b,.seq x (.wkr y)=>.seq (jJ P a x) (jJ P b y)
 | .cond _ a b,.cond c x y=>.cond c (jJ P a x) (jJ P b y)
 | .block _ b,.block id x=>.block id (jJ P b x)
 | .loop b,.loop x=>.loop xs0 (jJ P b x)
 | .exit _,.exit id=>.exit id
 | .scope b,.scope x=>.scope (jJ P b x)
 | .ret,.ret=>.ret
 | _,.skip=>.skip
 | _,rc=>.bad rc
theorem aDq (P:Program):∀ (c:Code) (rc:RCode),(jJ P c rc).rc=rc:=by
 intro c
 induction c with
 | seq a b ih1 ih2 =>
  intro rc
  unfold jJ
  split <;> first
   | rfl
   | (rename_i e;cases e;show RCode.seq (jJ P _ _).rc (.wkr (jJ P _ _).rc)=_;rw [ih1,ih2];done)
   | (rename_i e;cases e;done)
   | (rename_i e _;cases e;done)
 | cond c0 a b ih1 ih2 =>
  intro rc
  unfold jJ
  split <;> first
   | rfl
   | (rename_i e;cases e;show RCode.cond _ (jJ P _ _).rc (jJ P _ _).rc=_;rw [ih1,ih2];done)
   | (rename_i e;cases e;done)
   | (rename_i e _;cases e;done)
 | block id b ih =>
  intro rc
  unfold jJ
  split <;> first
   | rfl
   | (rename_i e;cases e;show RCode.block _ (jJ P _ _).rc=_;rw [ih];done)
   | (rename_i e;cases e;done)
   | (rename_i e _;cases e;done)
 | loop b ih =>
  intro rc
  unfold jJ
  split <;> first
   | rfl
   | (rename_i e;cases e;show RCode.loop (jJ P _ _).rc=_;rw [ih];done)
   | (rename_i e;cases e;done)
   | (rename_i e _;cases e;done)
 | scope b ih =>
  intro rc
  unfold jJ
  split <;> first
   | rfl
   | (rename_i e;cases e;show RCode.scope (jJ P _ _).rc=_;rw [ih];done)
   | (rename_i e;cases e;done)
   | (rename_i e _;cases e;done)
 | region id ops dr =>
  intro rc
  cases rc <;> first | rfl | (show RCode.reg _ ((xS _ _).map XRO.ro)=_;rw [pJ];done) | (show RCode.regP ((xS _ _).map XRO.ro)=_;rw [pJ];done) | (show RCode.regS _ ((xS _ _).map XRO.ro)=_;rw [pJ];done) | (show RCode.regN ((xS _ _).map XRO.ro)=_;rw [pJ];done) | (show RCode.regY ((xS _ _).map XRO.ro)=_;rw [pJ];done) | (show RCode.regM ((xS _ _).map XRO.ro) _=_;rw [pJ];done)
 | _=>intro rc;cases rc <;> rfl
def kC (A:List Ann):Nat->XC->XC
 | n,.seq a b=>match aLn A n with
  | some x=>.join x.pure x.m (kC A (n + 1) a) (kC A (n + 1 + a.cnt) b)
  | none=>.seq (kC A (n + 1) a) (kC A (n + 1 + a.cnt) b)
 | n,.cond c a b=>.cond c (kC A n a) (kC A (n + a.cnt) b)
 | n,.block id b=>.block id (kC A n b)
 | n,.loop m b=>match aLn A n with
  | some x=>.loop x.m (kC A (n + 1) b)
  | none=>.loop m (kC A (n + 1) b)
 | n,.scope b=>.scope (kC A n b)
 | _,c=>c
theorem gV (A:List Ann):∀ (c:XC) (n:Nat),(kC A n c).rc=c.rc
 | .seq a b,n=>by
  unfold kC
  split
  ·show RCode.seq (kC A _ a).rc (.wkr (kC A _ b).rc)=_;rw [gV A a,gV A b];rfl
  ·show RCode.seq (kC A _ a).rc (.wkr (kC A _ b).rc)=_;rw [gV A a,gV A b];rfl
 | .cond c a b,n=>by show RCode.cond c (kC A _ a).rc (kC A _ b).rc=_;rw [gV A a,gV A b];rfl
 | .block id b,n=>by show RCode.block id (kC A _ b).rc=_;rw [gV A b];rfl
 | .loop m b,n=>by
  unfold kC
  split
  ·show RCode.loop (kC A _ b).rc=_;rw [gV A b];rfl
  ·show RCode.loop (kC A _ b).rc=_;rw [gV A b];rfl
 | .scope b,n=>by show RCode.scope (kC A _ b).rc=_;rw [gV A b];rfl
 | .join _ _ _ _,_=>rfl
 | .skip,_=>rfl
 | .reg _ _,_=>rfl
 | .regS _ _,_=>rfl
 | .regP _,_=>rfl
 | .regN _,_=>rfl
 | .regY _,_=>rfl
 | .regM _ _,_=>rfl
 | .rangeF ..,_=>rfl
 | .exit _,_=>rfl
 | .ret,_=>rfl
 | .bad _,_=>rfl
theorem yU (P:Program):∀ (c:Code) (rc:RCode),(jJ P c rc).Wf P:=by
 intro c
 induction c with
 | seq a b ih1 ih2 =>
  intro rc
  unfold jJ
  split <;> first
   | trivial
   | (rename_i e;cases e;exact ⟨ih1 _,ih2 _⟩)
   | (rename_i e;cases e;done)
   | (rename_i e _;cases e;done)
 | cond c0 a b ih1 ih2 =>
  intro rc
  unfold jJ
  split <;> first
   | trivial
   | (rename_i e;cases e;exact ⟨ih1 _,ih2 _⟩)
   | (rename_i e;cases e;done)
   | (rename_i e _;cases e;done)
 | block id b ih =>
  intro rc
  unfold jJ
  split <;> first
   | trivial
   | (rename_i e;cases e;exact ih _)
   | (rename_i e;cases e;done)
   | (rename_i e _;cases e;done)
 | loop b ih =>
  intro rc
  unfold jJ
  split <;> first
   | trivial
   | (rename_i e;cases e;exact ih _)
   | (rename_i e;cases e;done)
   | (rename_i e _;cases e;done)
 | scope b ih =>
  intro rc
  unfold jJ
  split <;> first
   | trivial
   | (rename_i e;cases e;exact ih _)
   | (rename_i e;cases e;done)
   | (rename_i e _;cases e;done)
 | _=>intro rc;cases rc <;> trivial
theorem iC (P:Program) (A:List Ann):∀ (c:XC) (n:Nat),c.Wf P->(kC A n c).Wf P
 | .seq a b,n,h=>by
  unfold kC
  split
  ·exact ⟨iC P A a _ h.1,iC P A b _ h.2⟩
  ·exact ⟨iC P A a _ h.1,iC P A b _ h.2⟩
 | .cond c a b,n,h=>⟨iC P A a _ h.1,iC P A b _ h.2⟩
 | .block id b,n,h=>iC P A b n h
 | .loop m b,n,h=>by
  unfold kC
  split
  ·exact iC P A b (n + 1) h
  ·exact iC P A b (n + 1) h
 | .scope b,n,h=>iC P A b n h
 | .join _ _ _ _,_,h=>h
 | .skip,_,h=>h
 | .reg _ _,_,h=>h
 | .regS _ _,_,h=>h
 | .regP _,_,h=>h
 | .regN _,_,h=>h
 | .regY _,_,h=>h
 | .regM _ _,_,h=>h
 | .rangeF ..,_,h=>h
 | .exit _,_,h=>h
 | .ret,_,h=>h
 | .bad _,_,h=>h
def bGd:List (Nat × Nat × List Nat)->Nat->Option (Nat × List Nat)
 | [],_=>none
 | (p,f) :: r,n=>match Nat.beq p n with
  | true=>some f
  | false=>bGd r n
def bGe (P : Program) (fn : Func) (g : Operand) (N0 : Nat) : Bool := !(fn.name == "runtime.NumGoroutine") && P.follows .mixedOrders && Nat.beq fn.results.size 0 && g.inN N0
def bCg (P:Program) (fl:List Nat) (A:List Ann) (n N0:Nat) (g:Operand) (ps:Array Tmp) (ca cb:Code) (f:Nat) (fl2:List Nat) (rc:RCode):XC:=match P.funcs[f]? with
 | some fn=>match fn.body with
  | some c2=>match aE P fl2 fn.ntmps c2,aE P fl N0 ca,aE P fl N0 cb,bGe P fn g N0 with
   | some it,some a,some b,true=>.rangeF N0 g ps ca cb f fn.ntmps (kC A (100000 * (n + 1) + 30000) (jJ P ca a)) (kC A (100000 * (n + 1) + 60000) (jJ P cb b)) (kC A (100000 * (n + 1)) (jJ P c2 it))
   | _,_,_,_=>.bad rc
  | none=>.bad rc
 | none=>.bad rc
def bAk (P:Program) (fl:List Nat) (A:List Ann) (n:Nat) (q:Option (Nat × List Nat)) (rc:RCode):XC:=match rc,q with
 | .sem N0 (.rangeFunc g ps ca cb),some (f,fl2)=>bCg P fl A n N0 g ps ca cb f fl2 rc
 | rc,_=>.bad rc
theorem bBd (P:Program) (fl:List Nat) (A:List Ann) (n:Nat) (q:Option (Nat × List Nat)) (rc:RCode):(bAk P fl A n q rc).rc=rc/\(bAk P fl A n q rc).Wf P:=by
 unfold bAk
 split
 case h_2=>exact ⟨rfl,trivial⟩
 unfold bCg
 split
 case h_2=>exact ⟨rfl,trivial⟩
 rename_i fn hf
 split
 case h_2=>exact ⟨rfl,trivial⟩
 rename_i c2 hc
 split
 case h_2=>exact ⟨rfl,trivial⟩
 rename_i it a b h1 h2 h3 h4
 refine ⟨rfl,⟨_,fl,fn,c2,hf,hc,?_,?_,by rw [gV,aDq];exact h1,by rw [gV,aDq];exact h2,by rw [gV,aDq];exact h3,?_,?_,rfl⟩,iC P A _ _ (yU P _ _),iC P A _ _ (yU P _ _),iC P A _ _ (yU P _ _)⟩ <;> unfold bGe at h4 <;> simp only [Bool.and_eq_true,Bool.not_eq_true'] at h4
 ·exact h4.1.1.1
 ·exact h4.1.1.2
 ·exact Array.eq_empty_of_size_eq_zero (Nat.eq_of_beq_eq_true h4.1.2)
 ·exact h4.2
def xL (P:Program) (fl:List Nat) (F:List (Nat × Nat × List Nat)) (A:List Ann):Nat->XC->XC
 | n,.seq a b=>match aLn A n with
  | some x=>.join x.pure x.m (xL P fl F A (n + 1) a) (xL P fl F A (n + 1 + a.cnt) b)
  | none=>.seq (xL P fl F A (n + 1) a) (xL P fl F A (n + 1 + a.cnt) b)
 | n,.cond c a b=>.cond c (xL P fl F A n a) (xL P fl F A (n + a.cnt) b)
 | n,.block id b=>.block id (xL P fl F A n b)
 | n,.loop m b=>match aLn A n with
  | some x=>.loop x.m (xL P fl F A (n + 1) b)
  | none=>.loop m (xL P fl F A (n + 1) b)
 | n,.scope b=>.scope (xL P fl F A n b)
 | n,.bad rc=>bAk P fl A n (bGd F n) rc
 | _,c=>c
theorem nS (P:Program) (fl:List Nat) (F:List (Nat × Nat × List Nat)) (A:List Ann):∀ (c:XC) (n:Nat),c.Wf P->(xL P fl F A n c).rc=c.rc/\(xL P fl F A n c).Wf P
 | .seq a b,n,h=>by
  have h1:=nS P fl F A a (n + 1) h.1
  have h2:=nS P fl F A b (n + 1 + a.cnt) h.2
  unfold xL
  split
  ·exact ⟨by show RCode.seq _ (.wkr _)=_;rw [h1.1,h2.1];rfl,h1.2,h2.2⟩
  ·exact ⟨by show RCode.seq _ (.wkr _)=_;rw [h1.1,h2.1];rfl,h1.2,h2.2⟩
 | .cond c a b,n,h=>by
  have h1:=nS P fl F A a n h.1
  have h2:=nS P fl F A b (n + a.cnt) h.2
  exact ⟨by show RCode.cond c _ _=_;rw [h1.1,h2.1];rfl,h1.2,h2.2⟩
 | .block id b,n,h=>by
  have h1:=nS P fl F A b n h
  exact ⟨by show RCode.block id _=_;rw [h1.1];rfl,h1.2⟩
 | .loop m b,n,h=>by
  have h1:=nS P fl F A b (n + 1) h
  unfold xL
  split
  ·exact ⟨by show RCode.loop _=_;rw [h1.1];rfl,h1.2⟩
  ·exact ⟨by show RCode.loop _=_;rw [h1.1];rfl,h1.2⟩
 | .scope b,n,h=>by
  have h1:=nS P fl F A b n h
  exact ⟨by show RCode.scope _=_;rw [h1.1];rfl,h1.2⟩
 | .bad rc,n,_=>bBd P fl A n _ rc
 | .join _ _ _ _,_,h=>⟨rfl,h⟩
 | .skip,_,h=>⟨rfl,h⟩
 | .reg _ _,_,h=>⟨rfl,h⟩
 | .regS _ _,_,h=>⟨rfl,h⟩
 | .regP _,_,h=>⟨rfl,h⟩
 | .regN _,_,h=>⟨rfl,h⟩
 | .regY _,_,h=>⟨rfl,h⟩
 | .regM _ _,_,h=>⟨rfl,h⟩
 | .rangeF ..,_,h=>⟨rfl,h⟩
 | .exit _,_,h=>⟨rfl,h⟩
 | .ret,_,h=>⟨rfl,h⟩
def mkX (P:Program) (fl:List Nat) (F:List (Nat × Nat × List Nat)) (A:List Ann) (c:Code) (rc:RCode):XC:=xL P fl F A 0 (jJ P c rc)
theorem bFc (P:Program) (fl:List Nat) (F:List (Nat × Nat × List Nat)) (A:List Ann) (c:Code) (rc:RCode):(mkX P fl F A c rc).rc=rc:=by
 unfold mkX;rw [(nS P fl F A _ 0 (yU P c rc)).1,aDq]
theorem bC6 (P:Program) (fl:List Nat) (F:List (Nat × Nat × List Nat)) (A:List Ann) (c:Code) (rc:RCode):(mkX P fl F A c rc).Wf P:=(nS P fl F A _ 0 (yU P c rc)).2
end Go.Eng

namespace Go.Eng
open Go.RowKit
variable {R:Type}

theorem Wk.any {s s':AState} (hb:∀ i,s'.bs i=s.bs i) (ho:∀ i,s'.own i=s.own i) (hn:s'.nx=s.nx) (he:∀ t,s'.env t=s.env t\/s'.env t=.any):Wk s s':=fun E a w ⟨G,m,h⟩=>by
 have hlk:s'.lk=s.lk:=by funext x;cases x with | B i=>exact hb i | O i=>exact ho i
 refine ⟨G,m,hlk ▸ h.sim,fun t=>?_,h.size,h.defers,?_,fun i hi=>h.fresh i (hn ▸ hi),h.frame,h.base,h.own,h.noO,fun i hi=>(ho i).trans (h.nxOk i (hn ▸ hi))⟩
 ·rcases he t with e | e
  ·rw [e];exact h.env t
  ·rw [e];unfold AV.Rep;trivial
 ·rcases he E.N with e | e
  ·rw [e];exact h.jok
  ·rw [e];exact E.Jany _ _ h.jok
def aTm:Nat->List XV->List (Nat × XV)
 | _,[]=>[]
 | n,v :: vs=>(n,v) :: aTm (n + 1) vs
theorem aNk:∀ (vs:List XV) (n t:Nat),aY (aTm n vs) t=if n <= t then vN vs (t - n) else .any
 | [],n,t=>by
  show XV.any=_
  split
  ·cases t - n <;> rfl
  ·rfl
 | v :: vs,n,t=>by
  show (if Nat.beq t n=true then v else aY (aTm (n + 1) vs) t)=_
  rw [aNk vs (n + 1) t]
  by_cases h:t=n
  ·rw [if_pos (by rw [Nat.beq_eq];exact h),if_pos (by omega),show t - n=0 by omega];rfl
  ·rw [if_neg (by rw [Nat.beq_eq];exact h)]
   by_cases h2:n + 1 <= t
   ·rw [if_pos h2,if_pos (by omega),show t - n=(t - (n + 1)) + 1 by omega];rfl
   ·rw [if_neg h2,if_neg (by omega)]
def xB:Nat->Nat->List Nat
 | _,0=>[]
 | n,k + 1=>n :: xB (n + 1) k
theorem aLz:∀ (k n i:Nat),(xB n k)[i]?=if i < k then some (n + i) else none
 | 0,n,i=>by simp [xB]
 | k + 1,n,0=>by simp [xB]
 | k + 1,n,i + 1=>by
  show (xB (n + 1) k)[i]?=_
  rw [aLz k (n + 1) i]
  by_cases h:i < k
  ·rw [if_pos h,if_pos (by omega),show n + 1 + i=n + (i + 1) by omega]
  ·rw [if_neg h,if_neg (by omega)]
theorem xV {k n j:Nat}:j ∈ xB n k ↔ n <= j/\j < n + k:=by
 induction k generalizing n with
 | zero=>simp [xB]
 | succ k ih =>
  show j ∈ n :: xB (n + 1) k ↔ _
  rw [List.mem_cons,ih];omega
theorem aGj:∀ (k n:Nat),(xB n k).Nodup
 | 0,_=>List.nodup_nil
 | k + 1,n=>List.nodup_cons.2 ⟨fun h=>by have:=(xV.1 h).1;omega,aGj k (n + 1)⟩
theorem aMy:∀ (k n:Nat),(xB n k).length=k
 | 0,_=>rfl
 | k + 1,n=>congrArg (· + 1) (aMy k (n + 1))
def aHc (ψ:Hd->Hd):List XV->List XV
 | []=>[]
 | v :: vs=>v.ren ψ :: aHc ψ vs
def aAv (ψ:Hd->Hd):List (Option XB)->List (Option XB)
 | []=>[]
 | none :: r=>none :: aAv ψ r
 | some b :: r=>some (b.ren ψ) :: aAv ψ r
theorem vE [YL] (ψ:Hd->Hd):∀ (l:List (Option XB)) (i:Nat),(aW (aAv ψ l) i).map XB.er=((aW l i).map XB.er).map (Blk.ren ψ)
 | [],_=>rfl
 | none :: _,0=>rfl
 | some b :: _,0=>congrArg some (aJ1 ψ b)
 | none :: r,i + 1=>vE ψ r i
 | some _ :: r,i + 1=>vE ψ r i
def aEd:Nat->List (Option XB)->List (Option XB)
 | _,[]=>[]
 | 0,_ :: r=>none :: aEd 0 r
 | d + 1,b :: r=>b :: aEd d r
def yJ:Nat->List (Option XB)->List (Option XB)
 | 0,l=>l
 | _ + 1,[]=>[]
 | d + 1,_ :: r=>yJ d r
theorem aA9:∀ (d:Nat) (l:List (Option XB)) (i:Nat),aW (aEd d l) i=if i < d then aW l i else none
 | 0,[],_=>rfl
 | d + 1,[],i=>by show none=if i < d + 1 then none else none;split <;> rfl
 | 0,_ :: r,0=>rfl
 | 0,_ :: r,i + 1=>by
  show aW (aEd 0 r) i=_
  rw [aA9 0 r i]
  simp
 | d + 1,b :: r,0=>rfl
 | d + 1,b :: r,i + 1=>by
  show aW (aEd d r) i=_
  rw [aA9 d r i]
  by_cases h:i < d
  ·rw [if_pos h,if_pos (by omega)];rfl
  ·rw [if_neg h,if_neg (by omega)]
theorem aIl:∀ (d:Nat) (l:List (Option XB)) (i:Nat),aW (yJ d l) i=aW l (d + i)
 | 0,l,i=>by rw [Nat.zero_add];rfl
 | d + 1,[],i=>by
  show none=aW [] _
  cases d + 1 + i <;> rfl
 | d + 1,b :: r,i=>by
  show aW (yJ d r) i=_
  rw [aIl d r i,show d + 1 + i=(d + i) + 1 by omega];rfl
theorem aHt:∀ (d:Nat) (l:List (Option XB)),(yJ d l).length=l.length - d
 | 0,l=>rfl
 | d + 1,[]=>by simp [yJ]
 | d + 1,b :: r=>by show (yJ d r).length=_;rw [aHt d r];simp
def stS (d:Nat) (s:XS):XS :=
 let ψ:=qQ (xB d (s.bs.length - d))
 {env:=aTm 0 (aHc ψ (aIw s.env)),bs:=aAv ψ (aEd d s.bs),own:=aAv ψ (yJ d s.bs) }
theorem aMf [YL] (ψ:Hd->Hd):∀ (vs:List XV) (i:Nat),i < vs.length->(vN (aHc ψ vs) i).er=AV.ren ψ (vN vs i).er
 | [],_,h=>by simp at h
 | v :: _,0,_=>aKy ψ v
 | _ :: vs,i + 1,h=>aMf ψ vs i (by simpa using h)
theorem aIc (ψ:Hd->Hd):∀ vs:List XV,(aHc ψ vs).length=vs.length
 | []=>rfl
 | _ :: vs=>congrArg (· + 1) (aIc ψ vs)
theorem aQx:∀ (vs:List XV) (i:Nat),vs.length <= i->vN vs i=.any
 | [],i,_=>by cases i <;> rfl
 | _ :: _,0,h=>by simp at h
 | _ :: vs,i + 1,h=>aQx vs i (by simpa using h)
theorem aN0 {α:Type} (f:XV->α):∀ l:List (Nat × XV),(aIw l).map f=l.map fun p=>f p.2
 | []=>rfl
 | p :: l=>congrArg (f p.2 :: ·) (aN0 f l)
theorem aBy (ψ:Hd->Hd):∀ l:List (Option XB),(aAv ψ l).length=l.length
 | []=>rfl
 | none :: l=>congrArg (· + 1) (aBy ψ l)
 | some _ :: l=>congrArg (· + 1) (aBy ψ l)
theorem bDx [YL] (d:Nat) (s:XS):Wk (entry (s.env.map fun p=>p.2.er) (erB s.bs)) (stS d s).er:=by
 have h1:=aTv (s.env.map fun p=>p.2.er) (erB s.bs) (xB d (s.bs.length - d)) (aGj _ _)
 refine h1.trans (Wk.any (fun i=>?_) (fun i=>?_) ?_ fun t=>?_)
 ·show (aW (aAv _ (aEd d s.bs)) i).map XB.er=if i ∈ xB d (s.bs.length - d) then none else (((erB s.bs)[i]?).join).map _
  rw [vE,aA9,pS]
  by_cases hd:i < d
  ·rw [if_pos hd,if_neg (fun h=>by have:=(xV.1 h).1;omega)]
  ·rw [if_neg hd]
   by_cases h2:i < s.bs.length
   ·rw [if_pos (xV.2 ⟨by omega,by omega⟩)];rfl
   ·rw [if_neg (fun h=>by have:=(xV.1 h).2;omega),aAw _ _ (by omega)]
 ·show (aW (aAv _ (yJ d s.bs)) i).map XB.er=((xB d (s.bs.length - d))[i]?).bind fun j=>(((erB s.bs)[j]?).join).map _
  rw [vE,aIl,aLz]
  by_cases h:i < s.bs.length - d
  ·rw [if_pos h]
   show _=(((erB s.bs)[d + i]?).join).map _
   rw [pS]
  ·rw [if_neg h,aAw _ _ (by omega)];rfl
 ·show (aAv _ (yJ d s.bs)).length=(xB d (s.bs.length - d)).length
  rw [aBy,aHt,aMy]
 ·show (aY (aTm 0 (aHc _ (aIw s.env))) t).er=(AV.renL _ (s.env.map fun p=>p.2.er)).getD t .un\/(aY (aTm 0 (aHc _ (aIw s.env))) t).er=.any
  rw [aNk,if_pos (Nat.zero_le _),Nat.sub_zero]
  by_cases h:t < (aIw s.env).length
  ·left
   rw [aMf _ _ _ h,aAc,<- aN0 XV.er]
   congr 1
   have:∀ (l:List XV) (i:Nat),i < l.length->(vN l i).er=(l.map XV.er).getD i .un:=fun l=>by
    induction l with
    | nil=>intro i h;simp at h
    | cons v l ih =>
     intro i h
     cases i with
     | zero=>rfl
     | succ i =>
      have:=ih i (by simpa using h)
      show (vN l i).er=(v.er :: l.map XV.er).getD (i + 1) .un
      rw [this,List.getD_cons_succ]
   exact this _ _ h
  ·right
   rw [aQx _ _ (by rw [aIc];omega)];rfl

def aKn (s:XS):RRes->Option XV
 | .tmp t=>some (aY s.env t)
 | .cell ag t=>match aY s.env t with
  | .ptr h off=>match s.lk h with
   | some (.box cs)=>aUo ag cs off some
   | _=>none
  | .apt h 0=>match s.lk h,ag with
   | some (.arr _ n k x),some m=>match Nat.beq m n with
    | true=>some (.d (.ar n k) x)
    | false=>none
   | _,_=>none
  | _=>none
def qL (s:XS):List RRes->Option (List XV)
 | []=>some []
 | r :: rs=>match aKn s r,qL s rs with
  | some v,some vs=>some (v :: vs)
  | _,_=>none
theorem aN4 [YL] {s:XS} {r:RRes} {v:XV} (h:aKn s r=some v):rT s.er r=some v.er:=by
 unfold aKn at h
 split at h
 ·cases h;rfl
 ·rename_i ag t
  split at h
  ·rename_i hd off ht
   split at h
   ·rename_i cs hl
    obtain ⟨v',h1,h2⟩:=aDl h
    cases h1
    have e1:s.er.env t=.ptr hd off:=by show (aY s.env t).er=_;rw [ht];rfl
    have e2:s.er.lk hd=some (.box (XV.fcL cs)):=by rw [aS,hl];rfl
    simp only [rT,e1,e2]
    cases ag with
    | none=>exact h2
    | some n =>
     obtain ⟨h3,h4⟩:=h2
     simp only
     rw [if_pos h3,h4]
   ·cases h
  ·rename_i hd ht
   split at h
   ·rename_i mt n k x m hl
    split at h
    ·rename_i hb
     obtain rfl:=Nat.eq_of_beq_eq_true hb
     cases h
     have e1:s.er.env t=.eptr hd 1 0 0:=by show (aY s.env t).er=_;rw [ht];rfl
     have e2:s.er.lk hd=some (.row mt 1 (x.l.map (arD k))):=by rw [aS,hl];rfl
     simp only [rT,e1,e2]
     have hx:=x.len
     rw [if_pos ⟨trivial,trivial,trivial,by rw [List.length_map];omega⟩,List.drop_zero,List.take_of_length_le (by rw [List.length_map];omega),zU]
     rfl
    ·cases h
   ·cases h
  ·cases h
theorem aCb [YL] {s:XS}:∀ {rs:List RRes} {vs:List XV},qL s rs=some vs->kM s.er rs=some (XV.erL vs)
 | [],vs,h=>by cases h;rfl
 | r :: rs,vs,h=>by
  unfold qL at h
  split at h
  ·rename_i v vs' h1 h2
   cases h
   show (match rT s.er r,kM s.er rs with | some a,some as=>some (a :: as) | _,_=>none)=_
   rw [aN4 h1,aCb h2];rfl
  ·cases h
def nzR:List (Nat × XV)->List RRes->XS->XS
 | (_,m) :: ms,r :: rs,s=>match m,r with
  | .slw _ t _,.tmp n=>match aY s.env n with
   | .fln _=>nzR ms rs (s.put (some n) (.slw (.O s.own.length) t 0) [.row true t []] [])
   | _=>nzR ms rs s
  | _,_=>nzR ms rs s
 | _,_,s=>s
theorem aKv [YL]:∀ (ms:List (Nat × XV)) (rs:List RRes) (s:XS),Wk s.er (nzR ms rs s).er
 | [],_,s=>by unfold nzR;exact Wk.refl _
 | _ :: _,[],s=>by unfold nzR;exact Wk.refl _
 | (_,m) :: ms,r :: rs,s=>by
  unfold nzR
  split
  ·split
   ·rename_i h
    refine Wk.trans ?_ (aKv ms rs _)
    rw [cG]
    exact AState.own0_ok s.er _ _ (by show (aY s.env _).er=_;rw [h];rfl)
   ·exact aKv ms rs s
  ·exact aKv ms rs s
def aRj (rs:List RRes) (s:XS) (n:Nat):XV:=match qL s rs with
 | some vs=>vN vs n
 | none=>.any
def bB9 (rs:List RRes) (m:XS) (n:Nat) (s:XS):Bool:=match qL s rs with
 | some vs=>aBw 0 m.env vs && Nat.beq s.bs.length n
 | none=>false
def bGy (rs:List RRes) (m s:XS):NZ:=⟨s,bBs vrO (aRj rs s) m.env (aQi m.own)⟩
def nzF (rs:List RRes) (m s:XS):NZ:=bBv vrO 0 m.own (bA2 vrO 0 m.bs (bGy rs m (nzR m.env rs s)))
def aX9 (rs:List RRes) (m:XS) (n:Nat) (K:tup m.tys->Option R) (st:NZ):Option R:=match bB9 rs m n st.s with
 | true=>rd1 m (aRj rs) st K
 | false=>none
def bCa:Hd->Hd->Bool
 | .B i,.B j=>Nat.beq i j
 | .O _,.O _=>true
 | _,_=>false
def bGo:List XV->List XV->Bool
 | [],_=>true
 | _ :: _,[]=>false
 | m :: ms,v :: vs=>(match m,v with
  | .ptr h _,.ptr h' _=>bCa h h'
  | .apt h _,.apt h' _=>bCa h h'
  | _,_=>true) && bGo ms vs
def bHd (rs:List RRes) (m s:XS):Bool:=match qL s rs with
 | some vs=>aW4 (aIw m.env) vs && bGo (aIw m.env) vs
 | none=>false
def aOi (rs:List RRes) (n:Nat):(l:List XS)->XS->(RT l->Option R)->Option R
 | [],_,_=>none
 | [m],s,K=>aX9 rs m n (fun v=>K (toR m.tys v)) (nzF rs m s)
 | m :: m2 :: l,s,K=>match bHd rs m s with
  | true=>aX9 rs m n (fun v=>K (.inl (toR m.tys v))) (nzF rs m s)
  | false=>aOi rs n (m2 :: l) s fun r=>K (.inr r)
def bG9 (rs:List RRes) (n:Nat) (out:List XS):Exit->XS->Option (RT out)
 | .normal,s=>aOi rs n out s some
 | .ret,s=>aOi rs n out s some
 | _,_=>none
def bHi [YL]:List XV->AV
 | [v]=>v.er
 | vs=>.tup (XV.erL vs)
theorem aZ0 [YL] {s:XS} {rs:List RRes} {vs:List XV} (h:kM s.er rs=some (XV.erL vs)):aUv s.er rs=some (bHi vs):=by
 unfold aUv
 rw [h]
 match vs with
 | []=>rfl
 | [_]=>rfl
 | _ :: _ :: _=>rfl
theorem aR6 [YL] {rs:List RRes} {m s:XS} {n:Nat} {K:tup m.tys->Option R} {r:R} (h:aX9 rs m n K (nzF rs m s)=some r):∃ v,K v=some r/\∀ (e:Exit),(e=.normal\/e=.ret)->∀ nbs:List Blk,nbs.map some=erB (m.fill v).own ->
  aMz n rs (XV.val (m.fill v).env).er (erB (m.fill v).bs) nbs e s.er:=by
 unfold aX9 at h
 split at h
 case h_2=>cases h
 rename_i hok
 obtain ⟨v,sl,h,hr⟩:=aXj h
 have hw:Wk s.er (nzF rs m s).s.er:=(aKv m.env rs s).trans ((aJz vrO m.bs 0 (bGy rs m (nzR m.env rs s))).trans (aJw vrO _ _ _))
 generalize (nzF rs m s)=st at hok hr hw
 refine ⟨v,h,fun e he nbs hn=>⟨st.s.er,hw,he,sl,?_⟩⟩
 unfold bB9 at hok
 split at hok
 case h_2=>cases hok
 rename_i vs hvs
 rw [Bool.and_eq_true] at hok
 obtain ⟨hk,hb⟩:=hok
 have hb:=Nat.eq_of_beq_eq_true hb
 have hres:aRj rs st.s=vN vs:=by funext i;unfold aRj;rw [hvs]
 have henv:(m.fill v).env.map (fun p=>p.2.er)=vs.map fun v=>AV.conv st.s.er.lk (phi sl) v.er:=by
  have:=congrArg (fun l=>l.map (fun p:Nat × AV=>p.2)) hr.env
  simp only [List.map_map] at this
  rw [hres] at this
  rw [<- uW (f:=fun v=>AV.conv st.s.er.lk (phi sl) v.er) hk (ev:=vN vs) fun i _=>by rw [Nat.zero_add]]
  exact this
 refine ⟨_,hr.nd,aZ0 (aCb hvs),?_,?_,?_⟩
 ·generalize hf:(m.fill v).env=fe at henv
  have hl:∀ l:List (Nat × XV),XV.erL (l.map (·.2))=l.map fun p=>p.2.er:=fun l=>by
   induction l with
   | nil=>rfl
   | cons p l ih=>show p.2.er :: XV.erL (l.map (·.2))=_;rw [ih];rfl
  cases vs with
  | nil=>cases fe with
   | nil=>rfl
   | cons p fe=>cases henv
  | cons a vs=>cases fe with
   | nil=>cases henv
   | cons p fe=>cases vs with
    | nil=>cases fe with
     | nil=>exact (List.head_eq_of_cons_eq henv).symm
     | cons p2 fe=>exact absurd (congrArg List.length henv) (by simp)
    | cons a2 vs=>cases fe with
     | nil=>exact absurd (congrArg List.length henv) (by simp)
     | cons p2 fe =>
      show AV.tup (AV.convL _ _ (XV.erL (a :: a2 :: vs)))=AV.tup (XV.erL ((p :: p2 :: fe).map (·.2)))
      rw [xZ,<- henv,hl]
 ·rw [hr.bs]
  apply List.ext_getElem?
  intro i
  rw [List.getElem?_map,List.getElem?_map]
  by_cases hi:i < n
  ·rw [List.getElem?_range hi]
   have h2:=pS st.s.bs i
   have hl:i < (erB st.s.bs).length:=by show i < (List.map _ _).length;rw [List.length_map];omega
   rw [List.getElem?_eq_getElem hl] at h2 |-
   have h2:(erB st.s.bs)[i]=(aW st.s.bs i).map XB.er:=h2
   rw [h2];rfl
  ·rw [List.getElem?_eq_none (by rw [List.length_range];omega),List.getElem?_eq_none (by show (List.map _ _).length <= i;rw [List.length_map];omega)];rfl
 ·rw [hn,hr.own]
  have:∀ l:List Nat,(erB (oP st.s l)).map (fun b=>b.map (Blk.conv st.s.er.lk (phi sl)))=l.map fun j=>(st.s.er.own j).map (Blk.conv st.s.er.lk (phi sl)):=fun l=>by
   induction l with
   | nil=>rfl
   | cons j l ih=>show _ :: List.map _ (erB (oP st.s l))=_ :: _;rw [ih];rfl
  exact (this sl).symm
theorem aJ5 [YL] {rs:List RRes} {n:Nat}:∀ {l:List XS} {s:XS} {K:RT l->Option R} {r:R},aOi rs n l s K=some r->∃ x,K x=some r/\∀ (e:Exit),(e=.normal\/e=.ret)->∀ nbs:List Blk,nbs.map some=erB (aC4 l x).own ->
  aMz n rs (XV.val (aC4 l x).env).er (erB (aC4 l x).bs) nbs e s.er
 | [],_,_,_,h=>by cases h
 | [m],s,K,r,h=>by
  obtain ⟨v,h,hv⟩:=aR6 (show aX9 rs m n (fun v=>K (toR m.tys v)) (nzF rs m s)=some r from h)
  refine ⟨toR m.tys v,h,?_⟩
  have e:aC4 [m] (toR m.tys v)=m.fill v:=by show m.fill (ofR m.tys (toR m.tys v))=_;rw [aAf]
  rw [e];exact hv
 | m :: m2 :: l,s,K,r,h=>by
  unfold aOi at h
  split at h
  ·obtain ⟨v,h,hv⟩:=aR6 h
   refine ⟨.inl (toR m.tys v),h,?_⟩
   have e:aC4 (m :: m2 :: l) (.inl (toR m.tys v))=m.fill v:=by show m.fill (ofR m.tys (toR m.tys v))=_;rw [aAf]
   rw [e];exact hv
  ·obtain ⟨x,h,hx⟩:=aJ5 (l:=m2 :: l) h
   exact ⟨.inr x,h,hx⟩
def bFk (N:Nat) (P:Program) (T:List Sig) (fl:List Nat) (F:List (Nat × Nat × List Nat)) (A:List Ann) (d:Nat) (fn:Func) (c:Code) (ent:XS) (out:List XS):fty ent.tys (RT out) :=
 match aE P fl fn.ntmps c,mE P fn.ntmps fn.results.toList with
 | some rc,some rs=>cuF ent.tys fun v=>eR N T (mkX P fl F A c rc) noX (stS d (ent.fill v)) (bG9 rs ent.bs.length out)
 | _,_=>cuF ent.tys fun _=>none
theorem aMj (len:Hd->Nat):∀ (l:List (Nat × XV)) (q:List DS),(aO1 len l q).1.length=l.length
 | [],_=>rfl
 | (_,_) :: l,q=>congrArg (· + 1) (aMj len l _)
theorem aBf (len:Hd->Nat):∀ (l:List (Option XB)) (q:List DS),(sJ len l q).1.length=l.length
 | [],_=>rfl
 | none :: l,q=>congrArg (· + 1) (aBf len l _)
 | some _ :: l,q=>congrArg (· + 1) (aBf len l _)
theorem aWu {P : Program} (N : Nat) {T : List Sig} (hT : pD P T) (fl : List Nat) (A : List Ann) (d : Nat) (RF : List (Nat × Nat × List Nat)) {f : FuncId} {fn : Func} {c : Code} {ent : XS} {out : List XS} {F : fty ent.tys (RT out)} (hf : P.funcs[f]? = some fn) (hb : fn.body = some c) (hname : (fn.name == "runtime.NumGoroutine") = false) (hm : P.follows .mixedOrders = true)
  (hn:ent.env.length <= fn.ntmps) (hF:∀ a,apF ent.tys F a=apF ent.tys (bFk N P T fl RF A d fn c ent out) a):aJ P ⟨f,ent,out,F⟩:=by
 intro _ v r h nbs hnbs
 have h:apF ent.tys F v=some r:=h
 rw [hF] at h
 unfold bFk at h
 split at h
 ·rename_i rc rs hrc hrs
  rw [iB] at h
  have hlen:(erB (ent.fill v).bs).length=ent.bs.length:=by
   show (List.map _ (sJ _ ent.bs _).1).length=_
   rw [List.length_map,aBf]
  refine ACall.of_bodyX fl _ hf hb hname hm hrc hrs ?_ (bDx d (ent.fill v)) ?_
  ·show (List.map _ (aO1 _ ent.env _).1).length <= _
   rw [List.length_map,aMj];exact hn
  ·have:=cT hT (bC6 P fl RF A c rc) _ noX noY YRel.no h (Q:=aMz ent.bs.length rs (XV.val (aC4 out r).env).er (erB (aC4 out r).bs) nbs) fun e s' h=>by
    cases e with
    | normal =>
     obtain ⟨x,hx,hq⟩:=aJ5 (show aOi rs ent.bs.length out s' some=some r from h)
     cases hx
     exact hq _ (.inl rfl) nbs hnbs
    | ret =>
     obtain ⟨x,hx,hq⟩:=aJ5 (show aOi rs ent.bs.length out s' some=some r from h)
     cases hx
     exact hq _ (.inr rfl) nbs hnbs
    | _=>cases h
   rw [bFc] at this
   rw [hlen]
   exact this
 ·rw [iB] at h;cases h
theorem bX {P : Program} (N : Nat) {T : List Sig} (hT : pD P T) (fl : List Nat) (A : List Ann) (d : Nat) {f : FuncId} {fn : Func} {c : Code} {ent : XS} {out : List XS} {F : fty ent.tys (RT out)} (hf : P.funcs[f]? = some fn) (hb : fn.body = some c) (hname : (fn.name == "runtime.NumGoroutine") = false) (hm : P.follows .mixedOrders = true)
  (hn:ent.env.length <= fn.ntmps) (hF:∀ a,apF ent.tys F a=apF ent.tys (bFk N P T fl [] A d fn c ent out) a):aJ P ⟨f,ent,out,F⟩:=aWu N hT fl A d [] hf hb hname hm hn hF
def dd (t:Ty):XV:=.d t t.z
end Go.Eng

namespace Go.Eng
open Go.RowKit Go.ChangeShapes Go.WideShapes Go.ChangeAt

def gOf (w:World):Gh:=fun b o=>w.cell? ⟨b,o,none⟩
def CRep (G:Gh) (ds:List DV) (cs:List Value):Prop:=ds.length=cs.length/\DV.cells G (fun j=>cs[j]?) 0 ds

theorem CRep.nil {G:Gh}:CRep G [] []:=⟨rfl,by simp [DV.cells]⟩
theorem CRep.app {G:Gh} {d1 d2:List DV} {cs:List Value} (n:Nat) (h1:CRep G d1 (cs.take n)) (h2:CRep G d2 (cs.drop n)):CRep G (d1 ++ d2) cs:=by
 obtain ⟨l1,c1⟩:=h1
 obtain ⟨l2,c2⟩:=h2
 rw [List.length_take] at l1
 rw [List.length_drop] at l2
 refine ⟨by rw [List.length_append];omega,DV.cells_append (DV.cells_congr (fun i hi=>?_) c1) (DV.cells_congr (o:=0) (fun i hi=>?_) c2)⟩
 ·simp only [Nat.zero_add]
  rw [List.getElem?_take_of_lt (by omega)]
 ·simp only [Nat.zero_add]
  rw [List.getElem?_drop]
  rcases Nat.lt_or_ge n cs.length with h | h
  ·rw [show d1.length=n by omega]
  ·exfalso;omega
theorem CRep.one {G:Gh} {d:DV} {v:Value} (h:DV.Rep G d v):CRep G [d] [v]:=⟨rfl,by simp [DV.cells];exact h⟩

structure Cv (P:Program) (t:TypeId) {α:Type} (row:α->List DV) (k:Nat) (ok:α->Prop):Prop where
 len:∀ x,(row x).length=k
 cells:P.cellsOf t=k
 get:∀ {H:Type} (enc:TypeId × Value->H) (w:World) (spare:Nat->Bool) (held:Bool) (fuel:Nat) (cs:List Value) (r:DataW H × List MemPlace),DataW.trod enc P w 0 spare held fuel t cs=some r->∃ x,ok x/\CRep (gOf w) (row x) cs

theorem Cv.int {P:Program} {t:TypeId} {k:IntKind} (ht:P.underlying t=some (.int k)) (hc:P.cellsOf t=1):Cv P t (Ty.i k).ds 1 fun n=>k.min <= n/\n <= k.max :=
 ⟨fun _=>rfl,hc,fun enc w spare held fuel cs r h=>by
  obtain ⟨n,rfl,_,hw⟩:=DataW.trod_int ht h
  simp only [Lit.wf,Bool.and_eq_true,decide_eq_true_eq] at hw
  exact ⟨n,hw,CRep.one (by unfold DV.Rep;rfl)⟩⟩
theorem Cv.bool {P:Program} {t:TypeId} (ht:P.underlying t=some .bool) (hc:P.cellsOf t=1):Cv P t Ty.b.ds 1 fun _=>True :=
 ⟨fun _=>rfl,hc,fun enc w spare held fuel cs r h=>by
  obtain ⟨b,rfl,_⟩:=DataW.trod_bool ht h
  exact ⟨b,trivial,CRep.one (by unfold DV.Rep;rfl)⟩⟩
theorem Cv.string {P:Program} {t:TypeId} (ht:P.underlying t=some .string) (hc:P.cellsOf t=1):Cv P t Ty.s.ds 1 fun s=>s.length <= 9223372036854775807 :=
 ⟨fun _=>rfl,hc,fun enc w spare held fuel cs r h=>by
  obtain ⟨s,rfl,_,hs⟩:=DataW.trod_string ht h
  exact ⟨s.data.toList,by simpa [maxLen] using hs,CRep.one (by unfold DV.Rep;rfl)⟩⟩

theorem aKp {α:Type} {Q:Nat->α->Prop}:∀ (n:Nat),(∀ i,i < n->∃ x,Q i x)->∃ xs:List α,xs.length=n/\∀ i x,xs[i]?=some x->Q i x
 | 0,_=>⟨[],rfl,fun i x h=>by simp at h⟩
 | n + 1,h=>by
  obtain ⟨xs,h1,h2⟩:=aKp n (fun i hi=>h i (by omega))
  obtain ⟨x,hx⟩:=h n (by omega)
  refine ⟨xs ++ [x],by simp [h1],fun i y hy=>?_⟩
  rcases Nat.lt_or_ge i xs.length with hi | hi
  ·rw [List.getElem?_append_left hi] at hy;exact h2 i y hy
  ·rw [List.getElem?_append_right hi] at hy
   have:i - xs.length=0:=by
    rcases Nat.eq_zero_or_pos (i - xs.length) with e | e
    ·exact e
    ·rw [List.getElem?_eq_none (by simp;omega)] at hy;cases hy
   rw [this] at hy
   simp at hy
   subst hy
   rw [show i=n by omega];exact hx

theorem aQb {α:Type} {G:Gh} {row:α->List DV} {k:Nat} {f:Nat->Option Value} (hk:∀ x,(row x).length=k):∀ (xs:List α) (o:Nat),(∀ i x,xs[i]?=some x->DV.cells G f (o + i * k) (row x))->DV.rows G f k o (xs.map row)
 | [],_,_=>by simp [DV.rows]
 | x :: xs,o,h=>by
  simp only [List.map_cons]
  unfold DV.rows
  refine ⟨hk x,by simpa using h 0 x rfl,aQb hk xs (o + k) (fun i y hy=>?_)⟩
  have:=h (i + 1) y (by simpa using hy)
  rwa [Nat.add_mul,Nat.one_mul,Nat.add_comm (i * k) k,<- Nat.add_assoc] at this

theorem Cv.slice {P:Program} {t e:TypeId} {α:Type} {row:α->List DV} {k:Nat} {ok:α->Prop} (hE:Cv P e row k ok) (hk:0 < k) (ht:P.underlying t=some (.slice e)) (hc:P.cellsOf t=1) :
  Cv P t (fun xs:List α=>[DV.L (xs.map row)]) 1 fun xs=>xs.length <= 9223372036854775807/\∀ x ∈ xs,ok x :=
 ⟨fun _=>rfl,hc,fun enc w spare held fuel cs r h=>by
  rcases Go.Deep.open_slice ht h with ⟨rfl,_⟩ | ⟨a,len,cap,m,n,D,Pl,rfl,_,hl,hm,hmm,_,hi⟩
  ·refine ⟨[],⟨by simp,by simp⟩,CRep.one ?_⟩
   unfold DV.Rep
   exact ⟨none,0,rfl,Nat.le_refl _,fun _=>rfl,fun h=>absurd rfl h⟩
  ·have hlm:len <= m:=by rw [hmm];split <;> omega
   obtain ⟨xs,h1,h2⟩:=aKp (Q:=fun i x=>ok x/\∃ cs',w.cells? 0 (a.add (i * P.cellsOf e)) (P.cellsOf e)=some cs'/\CRep (gOf w) (row x) cs') len (fun i hil=>by
    obtain ⟨cs',hc',htr⟩:=hi i (by omega)
    obtain ⟨x,hx,hr⟩:=hE.get enc w spare held n cs' _ htr
    exact ⟨x,hx,cs',hc',hr⟩)
   refine ⟨xs,⟨by rw [h1];simp [maxLen] at hm;omega,fun x hx=>?_⟩,CRep.one ?_⟩
   ·obtain ⟨i,hi⟩:=List.getElem?_of_mem hx
    exact (h2 i x hi).1
   ·unfold DV.Rep
    refine ⟨some a,cap,by rw [List.length_map,h1],by rw [List.length_map,h1];exact hl,(fun e=>by cases e),fun hne=>?_⟩
    have hx0:∃ x,xs[0]?=some x:=by
     cases xs with
     | nil=>simp at hne
     | cons x _=>exact ⟨x,rfl⟩
    obtain ⟨x0,hx0⟩:=hx0
    obtain ⟨_,cs0,hc0,hl0,_⟩:=h2 0 x0 hx0
    obtain ⟨_,hcl0,hat0⟩:=World.cells?_some hc0
    rw [hE.cells] at hcl0 hat0
    have hspot:a=⟨a.block,a.off,none⟩:=by
     have h3:=hat0 0 hk
     have h4:(cs0[0]?).isSome=true:=by rw [List.getElem?_eq_getElem (by omega)];rfl
     rw [<- h3] at h4
     obtain ⟨b,o,sp⟩:=a
     cases sp with
     | none=>rfl
     | some _=>exfalso;simp [World.cell?,Addr.add] at h4;split at h4 <;> cases h4
    refine ⟨a.block,a.off,k,by rw [<- hspot],aQb hE.len xs a.off (fun i x hx=>?_)⟩
    obtain ⟨_,cs',hc',hl',hcr⟩:=h2 i x hx
    obtain ⟨_,hcl,hat⟩:=World.cells?_some hc'
    rw [hE.cells] at hcl hat
    refine DV.cells_congr (o:=0) (fun j hj=>?_) hcr
    have hj':j < k:=by rw [hE.len] at hj;exact hj
    have:=hat j hj'
    rw [hspot,Addr.add_lit,Addr.add_lit] at this
    rw [Nat.zero_add,<- this]
    rfl⟩

theorem Cv.struct {P:Program} {t:TypeId} {fs:Array Field} {α:Type} {row:α->List DV} {k:Nat} {ok:α->Prop} (ht:P.underlying t=some (.struct fs)) (hc:P.cellsOf t=k) (hlen:∀ x,(row x).length=k)
  (h:∀ (G:Gh) (cs:List Value),cs.length=k->(∀ (i:Nat) (f:Field),fs[i]?=some f->∀ {α:Type} {row:α->List DV} {k':Nat} {ok:α->Prop},Cv P f.type row k' ok->∃ x,ok x/\CRep G (row x) ((cs.drop f.offset).take k'))->∃ x,ok x/\CRep G (row x) cs):Cv P t row k ok :=
 ⟨hlen,hc,fun enc w spare held fuel cs r hr=>by
  obtain ⟨xs,n,_,_,hcl,hxl,hf⟩:=DataW.trod_struct ht hr
  refine h (gOf w) cs (by rw [hcl,hc]) (fun i f hi α' row' k' ok' hcv=>?_)
  have h1:=hf i f hi
  have hlt:=(Array.getElem?_eq_some_iff.1 hi).1
  rw [List.getElem?_eq_getElem (by omega)] at h1
  obtain ⟨x,hx,hxr⟩:=hcv.get enc w spare held n _ _ h1
  rw [hcv.cells] at hxr
  exact ⟨x,hx,hxr⟩⟩
theorem CRep.cons {G:Gh} {ds rest:List DV} {cs:List Value} {o k:Nat} (h1:CRep G ds ((cs.drop o).take k)) (h2:CRep G rest (cs.drop (o + k))):CRep G (ds ++ rest) (cs.drop o) :=
 CRep.app k h1 (by rwa [List.drop_drop])
theorem aIk {G:Gh} {m:HM} {ds:List DV} {cs:List Value} (h:CRep G ds cs):AV.RepL G m (ds.map .D) cs :=
 AV.RepL_data h.2 (fun j hj=>by rw [Nat.zero_add]) h.1.symm
theorem zF {G:Gh} {m:HM} {d:DV} {v:Value} (h:CRep G [d] v.cells.toList) (hv:v.oneCell'=true):AV.Rep G m (.D d) v:=by
 have:=aIk (m:=m) h
 rw [wD hv] at this
 simp only [List.map_cons,List.map_nil] at this
 unfold AV.RepL at this
 obtain ⟨u,us,e,h2,_⟩:=this
 cases e
 exact h2
theorem aNo {G:Gh} {m:HM} {ds:List DV} {cs:Array Value} (h:CRep G ds cs.toList):AV.Rep G m (.agg (ds.map .D)) (.agg cs):=by
 unfold AV.Rep
 exact ⟨cs,rfl,aIk h⟩

theorem bBx (w:World) (hg:GlOk (gOf w)):Sim (gOf w) (fun _=>none) (iP [] []) w:=⟨(fun _ _ _ h=>by cases h),(fun _ h=>by cases h),(fun _ _ _ _ _ h=>by cases h),(fun _ _ _ h=>h),(fun _ h=>by cases h),hg,(fun _ _ _ _ h=>by cases h)⟩
theorem CallDoes.calls {P:Program} {f:FuncId} {vs:Array Value} {w:World} {R:Value->World->Prop} (hfn:aGs P f) (h:CallDoes P f vs w R):Calls P f vs w fun e w'=>∃ v,e=.returned v/\R v w':=by
 rcases h with ⟨_,h⟩ | ⟨v,w',h1,_⟩
 ·exact h
 ·exfalso
  obtain ⟨fd,q1,q2,q3⟩:=hfn
  have hnone:fd.body.isNone=false:=by rw [Option.isNone_eq_false_iff];exact q2
  simp only [callFunc,Sem.run_bind,run_program,Result.andThen_ok,q1,q3,hnone,Bool.false_eq_true,if_false] at h1
  simp at h1

theorem aUd {P:Program} {f:FuncId} {args:List AV} {w:World} {vs:Array Value} (hfn:aGs P f) (hg:GlOk (gOf w)) (hc:ACall P f args [] (.D (.B true)) [] []) (hr:AV.RepL (gOf w) (fun _=>none) args vs.toList) :
  Calls P f vs w fun e w'=>e=.returned (.bool true)/\Below w.heap.size w w' :=
 (CallDoes.calls hfn (hc w (gOf w) _ vs (bBx w hg) (fun _=>rfl) hr)).mono fun e w' ⟨v,he,G',m',_,hv,hF,_⟩=>by
  have:=zN hv
  subst this
  exact ⟨he,hF.os,hF.tape.1,hF.output,hF.size,fun b hb=>hF.heap b hb (Own.no b)⟩

theorem vV {H:Type} {enc:TypeId × Value->H} {P:Program} (hl:laidOutB P=true) {W W':World} (hb:Below W.heap.size W W') (sp:Nat->Bool):∀ {ts:List TypeId} {vs:List Value} {ds:List (DataW H)} {ps:List MemPlace},
  (∀ t ∈ ts,P.readableRec t=true/\t < P.types.size)->DataW.TrodAll enc P W 0 (fun _=>true) true ts vs ds ps->(∀ p ∈ ps,p.block < W.heap.size)->(∀ p ∈ ps,sp p.block=true)->DataW.TrodAll enc P W' 0 sp true ts vs ds ps
 | [],[],[],_,_,h,_,_=>h
 | t :: ts,v :: vs,d :: ds,ps,ht,h,hlt,hsp=>by
  obtain ⟨p,q,h1,h2,rfl⟩:=h
  exact ⟨p,q,WideElems.Trod_stays hl (ht t (by simp)).1 (ht t (by simp)).2 h1 (fun x hx=>hb.same (hlt x (by simp [hx]))) (fun x hx=>hsp x (by simp [hx])),
   vV hl hb sp (fun t' h'=>ht t' (by simp [h'])) h2 (fun x hx=>hlt x (by simp [hx])) (fun x hx=>hsp x (by simp [hx])),rfl⟩
 | [],[],_ :: _,_,_,h,_,_=>h.elim
 | [],_ :: _,ds,_,_,h,_,_=>by cases ds <;> exact h.elim
 | _ :: _,[],ds,_,_,h,_,_=>by cases ds <;> exact h.elim
 | _ :: _,_ :: _,[],_,_,h,_,_=>h.elim
theorem aW2 {P:Program} {f:Func} {s:ChangeSpec} {H:Type} {enc:TypeId × Value->H} {W W':World} {args:Array Value} {ds:List (DataW H)} {before:List MemPlace} {tb:TypeId} (hl:laidOutB P=true)
  (hW:DataW.Whole enc P f.params.toList s.vars false W args.toList ds [] before) (hvars:s.vars=[]) (hs:s.fn H (ds ++ [])={ results:=[.lit (.bool true)],args:=ds }) (hr:f.resultTypes=#[tb]) (htb:P.underlying tb=some .bool)
  (hp:∀ t ∈ f.params.toList,P.readableRec t=true/\t < P.types.size) (hb:Below W.heap.size W W'):s.post enc P f false true false false W args (.bool true) W':=by
 have hlt:∀ p ∈ before,p.block < W.heap.size:=fun p hp=>hW.lt p hp
 have hW0:=hW
 obtain ⟨p,q,hA,hV,hpq,hz,hn⟩:=hW0
 have hV0:=hV
 rw [hvars] at hV0
 have hq:q=[]:=by simpa [DataW.TrodVars] using hV0
 subst hq
 rw [List.append_nil] at hpq
 subst hpq
 have hstay:∀ sp:Nat->Bool,(∀ x ∈ before,sp x.block=true)->DataW.TrodAll enc P W' 0 sp true f.params.toList args.toList ds before:=fun sp hsp=>vV hl hb sp hp hA hlt hsp
 have hres:∀ (b:Nat) (sp:Nat->Bool) (hd:Bool),DataW.TrodAll enc P W' b sp hd f.resultTypes.toList ((Value.bool true).resultList f.resultTypes.size) [.lit (.bool true)] []:=fun b sp hd=>by
  rw [hr]
  exact trodAll_mk1 ⟨1,by simp [DataW.trod,Value.cells,htb]⟩
 have hvt:∀ sp:Nat->Bool,DataW.TrodVars enc P W' sp s.vars (s.fn H (ds ++ [])).vars []:=fun sp=>by
  rw [hvars,hs];exact rfl
 refine ⟨ds,[],before,[],before,[],hW,by rw [hs];exact hres _ _ _,by rw [hs];exact hstay _ (fun p hp=>by simpa using hlt p hp),hvt _,World.keptBut_mono (fun p hp=>⟨hp,.inr (.inl hp)⟩) (hb.frame (· ∈ before)),fun h=>by cases h⟩
theorem DV.cells_of {G:Gh} {f:Nat->Option Value}:∀ {ds:List DV} {o:Nat},(∀ i d,ds[i]?=some d->∃ v,f (o + i)=some v/\DV.Rep G d v)->DV.cells G f o ds
 | [],o,_=>by unfold DV.cells;trivial
 | d :: ds,o,h=>by
  unfold DV.cells
  obtain ⟨v,h1,h2⟩:=h 0 d rfl
  exact ⟨⟨v,h1,h2⟩,DV.cells_of fun i e hi=>by
   obtain ⟨u,h3,h4⟩:=h (i + 1) e (by simpa using hi)
   exact ⟨u,by rw [<- h3];congr 1;omega,h4⟩⟩
theorem Cv.array {P:Program} {t e:TypeId} {n:Nat} {k:IntKind} (he:P.underlying e=some (.int k)) (hce:P.cellsOf e=1) (ht:P.underlying t=some (.array n e)) (hc:P.cellsOf t=n) :
  Cv P t (Ty.ar n k).ds n fun x=>∀ y ∈ x.l,k.min <= y/\y <= k.max:= ⟨fun x=>Ty.ds_len (.ar n k) x,hc,fun enc w spare held fuel cs r h=>by
  obtain ⟨xs,m,_,_,hcl,hxl,hf⟩:=DataW.trod_array ht h
  rw [hc] at hcl
  simp only [hce,Nat.mul_one] at hf
  obtain ⟨zs,hl,hz⟩:=aKp (Q:=fun i z=>(k.min <= z/\z <= k.max)/\cs[i]?=some (.int k z)) n fun i hi=>by
   have h1:=hf i hi
   rw [List.getElem?_eq_getElem (by omega)] at h1
   obtain ⟨z,hz,_,hw⟩:=DataW.trod_int he h1
   simp only [Lit.wf,Bool.and_eq_true,decide_eq_true_eq] at hw
   refine ⟨z,hw,?_⟩
   have h2:=congrArg (·[0]?) hz
   simpa [List.getElem?_take,List.getElem?_drop] using h2
  refine ⟨⟨zs,hl⟩,fun y hy=>?_,?_⟩
  ·obtain ⟨i,hi⟩:=List.getElem?_of_mem hy
   exact (hz i y hi).1
  ·refine ⟨by rw [Ty.ds_len];show n=_;omega,DV.cells_of fun i d hd=>?_⟩
   have hd:(zs.map (DV.I k))[i]?=some d:=hd
   rw [List.getElem?_map,Option.map_eq_some_iff] at hd
   obtain ⟨z,hz1,rfl⟩:=hd
   exact ⟨_,by rw [Nat.zero_add];exact (hz i z hz1).2,by unfold DV.Rep;rfl⟩⟩
end Go.Eng

namespace Go.Eng
open Go.RowKit Go.ChangeShapes Go.WideShapes Go.ChangeAt

def Ty.ok:(t:Ty)->t.T->Prop
 | .i k,n=>k.min <= n/\n <= k.max
 | .s,x=>x.length <= 9223372036854775807
 | .sl t,xs=>xs.length <= 9223372036854775807/\∀ x ∈ xs,t.ok x
 | .ar _ k,x=>∀ y ∈ x.l,k.min <= y/\y <= k.max
 | .p a c,v=>a.ok v.1/\c.ok v.2
 | .w a,v=>a.ok v
 | _,_=>True
def isD:TypeDesc->TypeDesc->Bool
 | .bool,.bool=>true
 | .string,.string=>true
 | .int k,.int k'=>decide (k=k')
 | _,_=>false
theorem bFz:∀ {a b:TypeDesc},isD a b=true->a=b:=by
 intro a b h
 unfold isD at h
 split at h <;> first | rfl | (rw [of_decide_eq_true h];done) | cases h
def bAc (P:Program) (t:TypeId) (d:TypeDesc):Bool:=match P.underlying t with
 | some d'=>isD d' d
 | none=>false
theorem aQy {P:Program} {t:TypeId} {d:TypeDesc} (h:bAc P t d=true):P.underlying t=some d:=by
 unfold bAc at h
 split at h
 ·rename_i d' hd;rw [hd,bFz h]
 ·cases h
def uG (P:Program) (t:TypeId) (d:TypeDesc):Bool:=bAc P t d && Nat.beq (P.cellsOf t) 1
def aCr (g:TypeId->Bool) (fs:List Field) (o:Nat):Bool:=match fs with
 | [f]=>Nat.beq f.offset o && g f.type
 | _=>false
def slB (P:Program) (n:Nat) (g:TypeId->Bool) (t:TypeId):Bool:=match P.underlying t with
 | some (.slice e)=>g e && Nat.beq (P.cellsOf t) 1 && Nat.blt 0 n
 | _=>false
def arB (P:Program) (n:Nat) (k:IntKind) (t:TypeId):Bool:=match P.underlying t with
 | some (.array m e)=>Nat.beq m n && bAc P e (.int k) && Nat.beq (P.cellsOf e) 1 && Nat.beq (P.cellsOf t) n
 | _=>false
def stB (P:Program) (n:Nat) (g:List Field->Nat->Bool) (t:TypeId):Bool:=match P.underlying t with
 | some (.struct fs)=>g fs.toList 0 && Nat.beq (P.cellsOf t) n
 | _=>false
def aYp (n:Nat) (g:TypeId->Bool) (h:List Field->Nat->Bool) (fs:List Field) (o:Nat):Bool:=match fs with
 | f :: fs=>Nat.beq f.offset o && g f.type && h fs (o + n)
 | []=>false
def bFq:List Field->Nat->Bool
 | [],_=>true
 | _,_=>false
def cvB (P:Program):Ty->(TypeId->Bool) × (List Field->Nat->Bool)
 | .u=>(fun _=>false,bFq)
 | .b=>(fun t=>uG P t .bool,aCr fun t=>uG P t .bool)
 | .i k=>(fun t=>uG P t (.int k),aCr fun t=>uG P t (.int k))
 | .s=>(fun t=>uG P t .string,aCr fun t=>uG P t .string)
 | .ar n k=>(arB P n k,aCr (arB P n k))
 | .sl t=>(slB P t.n (cvB P t).1,aCr (slB P t.n (cvB P t).1))
 | .w x=>(stB P x.n (cvB P x).2,aCr (stB P x.n (cvB P x).2))
 | .p a c=>(fun _=>false,aYp a.n (cvB P a).1 (cvB P c).2)
 | .o _=>(fun _=>false,fun _ _=>false)

def bHe (P:Program) (G:Gh) (cs:List Value) (f:Field):Prop:=∀ {α:Type} {row:α->List DV} {k':Nat} {ok:α->Prop},Cv P f.type row k' ok->∃ x,ok x/\CRep G (row x) ((cs.drop f.offset).take k')
def bCs (P:Program) (t:Ty) (fs:List Field) (o:Nat):Prop:=∀ (G:Gh) (cs:List Value),cs.length=o + t.n->(∀ f ∈ fs,bHe P G cs f)->∃ x:t.T,t.ok x/\CRep G (t.ds x) (cs.drop o)
theorem qW {P:Program} {g:TypeId->Bool} {t:Ty} (hg:∀ i,g i=true->Cv P i t.ds t.n t.ok) {fs:List Field} {o:Nat} (h:aCr g fs o=true):bCs P t fs o:=by
 unfold aCr at h
 split at h
 ·rename_i f
  simp only [Bool.and_eq_true] at h
  have ho:=Nat.eq_of_beq_eq_true h.1
  intro G cs hl hf
  obtain ⟨x,hx,hr⟩:=hf f (List.mem_singleton.2 rfl) (hg _ h.2)
  refine ⟨x,hx,?_⟩
  rw [ho,List.take_of_length_le (by rw [List.length_drop];omega)] at hr
  exact hr
 ·cases h
theorem kQ {P:Program} {t:TypeId} {d:TypeDesc} (h:uG P t d=true):P.underlying t=some d/\P.cellsOf t=1:=by
 simp only [uG,Bool.and_eq_true] at h
 exact ⟨aQy h.1,Nat.eq_of_beq_eq_true h.2⟩
theorem aGe (P:Program):∀ T:Ty,(∀ i,(cvB P T).1 i=true->Cv P i T.ds T.n T.ok)/\∀ fs o,(cvB P T).2 fs o=true->bCs P T fs o
 | .u=>by
  refine ⟨fun _ h=>(by cases h),fun fs o h=>?_⟩
  cases fs with
  | nil=>exact fun G cs hl _=>⟨(),trivial,by rw [List.drop_of_length_le (by simp [hl,Ty.n])];exact CRep.nil⟩
  | cons _ _=>cases h
 | .b=>by
  have h1:∀ i,uG P i .bool=true->Cv P i Ty.b.ds 1 Ty.b.ok:=fun i h=>Cv.bool (kQ h).1 (kQ h).2
  exact ⟨h1,fun fs o h=>qW (t:=.b) h1 h⟩
 | .i k=>by
  have h1:∀ i,uG P i (.int k)=true->Cv P i (Ty.i k).ds 1 (Ty.i k).ok:=fun i h=>Cv.int (kQ h).1 (kQ h).2
  exact ⟨h1,fun fs o h=>qW (t:=.i k) h1 h⟩
 | .s=>by
  have h1:∀ i,uG P i .string=true->Cv P i Ty.s.ds 1 Ty.s.ok:=fun i h=>Cv.string (kQ h).1 (kQ h).2
  exact ⟨h1,fun fs o h=>qW (t:=.s) h1 h⟩
 | .ar n k=>by
  have h1:∀ i,arB P n k i=true->Cv P i (Ty.ar n k).ds n (Ty.ar n k).ok:=fun i h=>by
   unfold arB at h
   split at h
   ·rename_i m e hu
    simp only [Bool.and_eq_true,decide_eq_true_eq] at h
    obtain ⟨⟨⟨h1,h2⟩,h3⟩,h4⟩:=h
    obtain rfl:=Nat.eq_of_beq_eq_true h1
    exact Cv.array (aQy h2) (Nat.eq_of_beq_eq_true h3) hu (Nat.eq_of_beq_eq_true h4)
   ·cases h
  exact ⟨h1,fun fs o h=>qW (t:=.ar n k) h1 h⟩
 | .sl t=>by
  have h1:∀ i,slB P t.n (cvB P t).1 i=true->Cv P i (Ty.sl t).ds 1 (Ty.sl t).ok:=fun i h=>by
   unfold slB at h
   split at h
   ·rename_i e hu
    simp only [Bool.and_eq_true] at h
    exact Cv.slice ((aGe P t).1 _ h.1.1) (Nat.lt_of_lt_of_le Nat.zero_lt_one (Nat.le_of_ble_eq_true h.2)) hu (Nat.eq_of_beq_eq_true h.1.2)
   ·cases h
  exact ⟨h1,fun fs o h=>qW (t:=.sl t) h1 h⟩
 | .w x=>by
  have h1:∀ i,stB P x.n (cvB P x).2 i=true->Cv P i (Ty.w x).ds x.n (Ty.w x).ok:=fun i h=>by
   unfold stB at h
   split at h
   ·rename_i fs hu
    simp only [Bool.and_eq_true] at h
    refine Cv.struct hu (Nat.eq_of_beq_eq_true h.2) (fun y=>Ty.ds_len x y) fun G cs hl hf=>?_
    obtain ⟨y,hy,hr⟩:=(aGe P x).2 _ _ h.1 G cs (by rw [hl,Nat.zero_add]) fun f hm=>by
     obtain ⟨i,hi⟩:=List.getElem?_of_mem hm
     rw [Array.getElem?_toList] at hi
     exact fun {α} {row} {k'} {ok} hcv=>hf i f hi hcv
    exact ⟨y,hy,hr⟩
   ·cases h
  exact ⟨h1,fun fs o h=>qW (t:=.w x) h1 h⟩
 | .p a c=>by
   refine ⟨fun _ h=>(by cases h),fun fs o h=>?_⟩
   have h:aYp a.n (cvB P a).1 (cvB P c).2 fs o=true:=h
   cases fs with
   | nil=>cases h
   | cons f fs =>
    simp only [aYp,Bool.and_eq_true] at h
    intro G cs hl hf
    have hl:cs.length=o + (a.n + c.n):=hl
    obtain ⟨x,hx,hr⟩:=hf f (List.mem_cons_self ..) ((aGe P a).1 _ h.1.2)
    rw [Nat.eq_of_beq_eq_true h.1.1] at hr
    obtain ⟨y,hy,hq⟩:=(aGe P c).2 _ _ h.2 G cs (by omega) fun g hg=>fun {α} {row} {k'} {ok} hcv=>hf g (List.mem_cons_of_mem _ hg) hcv
    exact ⟨(x,y),⟨hx,hy⟩,CRep.cons hr hq⟩
 | .o _=>⟨fun _ h=>(by cases h),fun _ _ h=>(by cases h)⟩

def cvL (P:Program):List Ty->List TypeId->Bool
 | [],[]=>true
 | T :: Ts,t :: ts=>(cvB P T).1 t && cvL P Ts ts
 | _,_=>false
def aLk:(Ts:List Ty)->tup Ts->Prop
 | [],_=>True
 | T :: Ts,x=>T.ok x.1/\aLk Ts x.2
def aHi:(Ts:List Ty)->tup Ts->List AV
 | [],_=>[]
 | T :: Ts,x=>aM T x.1 :: aHi Ts x.2
theorem aOp {P:Program} {w:World} {r:Reach} {base:Nat} {t:TypeId} {v:Value} {n:Nat} {e:TypeId} (ht:P.underlying t=some (.array n e)) (h:Value.okWide P w r base t v):∃ cs,v=.agg cs:=by
 unfold Value.okWide at h
 rw [ht] at h
 obtain ⟨cs,h,_⟩:=h
 exact ⟨cs,h⟩
theorem aZ1 {P:Program} {W:World} {base:Nat} {T:Ty} {t:TypeId} {v:Value} {x:T.T} {m:HM} (hc:(cvB P T).1 t=true) (hw:Value.okWide P W .any base t v) (hr:CRep (gOf W) (T.ds x) v.cells.toList):AV.Rep (gOf W) m (aM T x) v:=by
 cases T with
 | u=>cases hc
 | b=>obtain ⟨b,rfl⟩:=okWide_bool (kQ hc).1 hw;exact zF hr rfl
 | i k=>obtain ⟨n,rfl⟩:=okWide_int (k:=k) (kQ hc).1 hw;exact zF hr rfl
 | s=>obtain ⟨n,rfl⟩:=okWide_string (kQ hc).1 hw;exact zF hr rfl
 | p a c=>cases hc
 | w y =>
  have hc:stB P y.n (cvB P y).2 t=true:=hc
  unfold stB at hc
  split at hc
  ·rename_i fs hu
   obtain ⟨cs,rfl,_⟩:=okWide_struct hu hw
   exact aNo hr
  ·cases hc
 | ar n k =>
  have hc:arB P n k t=true:=hc
  unfold arB at hc
  split at hc
  ·rename_i m' e hu
   obtain ⟨cs,rfl⟩:=aOp hu hw
   exact aNo hr
  ·cases hc
 | sl y =>
  have hc:slB P y.n (cvB P y).1 t=true:=hc
  unfold slB at hc
  split at hc
  ·rename_i e hu
   obtain ⟨a,l,c,rfl⟩:=okWide_slice hu hw
   exact zF hr rfl
  ·cases hc
 | o y=>cases hc
theorem aLi {P:Program} {W:World} {base:Nat} {H:Type} {enc:TypeId × Value->H} {spare:Nat->Bool} {held:Bool} {m:HM}:∀ {Ts:List Ty} {ts:List TypeId} {vs:List Value} {ds:List (DataW H)} {ps:List MemPlace},cvL P Ts ts=true->DataW.TrodAll enc P W 0 spare held ts vs ds ps->(∀ (j:Nat) t v,ts[j]?=some t->vs[j]?=some v->Value.okWide P W .any base t v)->∃ x:tup Ts,aLk Ts x/\AV.RepL (gOf W) m (aHi Ts x) vs
 | [],[],vs,ds,ps,_,hA,_=>by
  obtain ⟨rfl,_,_⟩:=trodAll_nil hA
  exact ⟨(),trivial,rfl⟩
 | T :: Ts,t :: ts,vs,ds,ps,hc,hA,hw=>by
  simp only [cvL,Bool.and_eq_true] at hc
  obtain ⟨v,vs1,d,ds1,p0,p1,rfl,rfl,rfl,t0,hA1⟩:=trodAll_cons hA
  obtain ⟨f0,t0⟩:=t0
  obtain ⟨x,hx,hr⟩:=((aGe P T).1 t hc.1).get enc W _ _ f0 _ _ t0
  obtain ⟨y,hy,hq⟩:=aLi (m:=m) hc.2 hA1 fun j t v h1 h2=>hw (j + 1) t v (by simpa using h1) (by simpa using h2)
  exact ⟨(x,y),⟨hx,hy⟩,_,_,rfl,aZ1 hc.1 (hw 0 t v rfl rfl) hr,hq⟩
 | [],_ :: _,_,_,_,h,_,_=>by cases h
 | _ :: _,[],_,_,_,h,_,_=>by cases h

end Go.Eng

namespace Go.Eng
open Go.RowKit
@[simp] theorem aG {α:Type} {a b:Option α}:if? true a b=a:=rfl
@[simp] theorem aC {α:Type} {a b:Option α}:if? false a b=b:=rfl
@[simp] theorem oG {α:Type} {c:Bool} {a b:Option α}:if? (!c) a b=if? c b a:=by cases c <;> rfl
@[simp] theorem aL {α β:Type} {x:α} {f:α->Option β}:bd? (some x) f=f x:=rfl
@[simp] theorem aR {α β:Type} {xs:List α} {a:Option β}:gl? xs.length xs a=a:=if_pos rfl
theorem aW9 {α β:Type} {n:Nat} {xs:List α} {a:Option β} (h:n=xs.length):gl? n xs a=a:=if_pos h
@[simp] theorem bGz {α β:Type} [DecidableEq α] {x:α} {a:Option β}:gd? (x=x) a=a:=if_pos rfl
theorem aO {α:Type} {p:Prop} [Decidable p] {a:Option α} (h:p):gd? p a=a:=if_pos h
theorem aYw {n:Int} (h:-9223372036854775808 <= n) (h':n <= 9223372036854775807):IntKind.wrap .i64 n=n:=by rw [IntKind.wrap_i64];omega
theorem bV {α:Type} {n:Int} {a:Option α} (h:-9223372036854775808 <= n) (h':n <= 9223372036854775807):ck .i64 n a=a:=by unfold ck;rw [if_pos (aYw h h')]
theorem bM {α β:Type} {xs:List α} {i:Nat} {x:α} {f:α->Option β} (h:xs[i]?=some x):aT xs (i:Int) f=f x:=by
 unfold aT
 rw [if_pos (Int.natCast_nonneg i),Int.toNat_natCast,h]
theorem tI {α β:Type} {xs:List α} {j:Int} {x:α} {f:α->Option β} (h0:0 <= j) (h:xs[j.toNat]?=some x):aT xs j f=f x:=by
 unfold aT
 rw [if_pos h0,h]
theorem wQ {α β:Type} {xs:List α} {i:Nat} {x:α} {f:α->Option β} (h:xs[i]?=some x):gn? xs i f=f x:=by
 unfold gn?
 rw [h]
@[simp] theorem bHl {α:Type} [DecidableEq α] {a:Option α}:ab? a a=a:=if_pos rfl
theorem bG6 {α:Type} {c:Bool} {a b:Option α}:if? c a b=if c=true then a else b:=by cases c <;> rfl
theorem bHb {R α:Type} [DecidableEq R] {rem:List α} {Kd:Option R} {K:α->List α->Option R} {a:Option R} (h1:rem=[]->Kd=a) (h2:∀ j k,rem[j]?=some k->K k (rem.eraseIdx j)=a):nx? rem Kd K=a:=bG2 h1 h2
end Go.Eng


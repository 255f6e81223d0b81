/- Texts of this claim. -/
import Derived.Test.YtkfcmelpadbdcaaGreatDoorYA
import Derived.ProofKit
import Derived.Deep.Slices
import Derived.OpenShut
import Derived.Lib.LaidTab
set_option linter.all false
set_option linter.unusedSimpArgs false
set_option linter.unusedVariables false
namespace Go.Eng
open Go.RowKit
variable {R:Type}

theorem asLeaf_cont [YL] {s:XS} {t:Ty} {v:XV} {K:List t.T->Option R} {r:R} (h:asLeaf s (.sl t) v K=some r) :
  ∃ xs:List t.T,K xs=some r/\AV.content s.er.lk v.er=some (xs.map t.ds)/\AV.isS v.er=false:=by
 unfold asLeaf at h
 split at h
 ·rename_i t' x
  split at h
  ·rename_i y hy
   obtain ⟨e,rfl⟩:=Ty.cst_ok hy
   subst e
   exact ⟨x,h,rfl,rfl⟩
  ·cases h
 ·rename_i t' xs
  split at h
  ·rename_i y hy
   obtain ⟨e,rfl⟩:=Ty.cst_ok hy
   cases e
   exact ⟨xs,h,rfl,rfl⟩
  ·cases h
 ·have h:K []=some r:=h
  exact ⟨[],h,rfl,rfl⟩
 ·have h:K []=some r:=h
  exact ⟨[],h,rfl,rfl⟩
 ·rename_i hd t' len
  split at h
  ·rename_i mt t2 xs hl
   split at h
   ·rename_i hb
    obtain rfl:=Ty.eq_of hb
    split at h
    ·rename_i y hy
     obtain ⟨e,rfl⟩:=Ty.cst_ok hy
     cases e
     replace h:=F_gl h
     obtain ⟨rfl,h⟩:=h
     refine ⟨xs,h,?_,rfl⟩
     show (match s.er.lk hd with | some (.row _ k' es)=>if k'=t.n/\0 + xs.length <= es.length then some ((es.drop 0).take xs.length) else none | _=>none)=_
     rw [lk_er,hl]
     show (if t.n=t.n/\0 + xs.length <= (xs.map t.ds).length then some (((xs.map t.ds).drop 0).take xs.length) else none)=_
     rw [if_pos ⟨rfl,by rw [List.length_map];omega⟩,List.drop_zero,List.take_of_length_le (by rw [List.length_map];exact Nat.le_refl _)]
    ·cases h
   ·cases h
  ·cases h
 ·rename_i hd t' off len
  split at h
  ·rename_i mt t2 xs hl
   split at h
   ·rename_i hb
    obtain rfl:=Ty.eq_of hb
    split at h
    ·rename_i y hy
     obtain ⟨e,rfl⟩:=Ty.cst_ok hy
     cases e
     obtain ⟨h1,h⟩:=F_gd h
     refine ⟨_,h,?_,rfl⟩
     show (match s.er.lk hd with | some (.row _ k' es)=>if k'=t.n/\off + len <= es.length then some ((es.drop off).take len) else none | _=>none)=_
     rw [lk_er,hl]
     show (if t.n=t.n/\off + len <= (xs.map t.ds).length then some (((xs.map t.ds).drop off).take len) else none)=_
     rw [if_pos ⟨rfl,by rw [List.length_map];exact h1⟩,List.map_take,List.map_drop]
    ·cases h
   ·cases h
  ·cases h
 ·rename_i hd off len
  split at h
  ·rename_i mt n k x hl
   split at h
   ·rename_i y hy
    obtain ⟨e,rfl⟩:=Ty.cst_ok hy
    cases e
    obtain ⟨h1,h⟩:=F_gd h
    refine ⟨_,h,?_,rfl⟩
    show (match s.er.lk hd with | some (.row _ k' es)=>if k'=1/\off + len <= es.length then some ((es.drop off).take len) else none | _=>none)=_
    rw [lk_er,hl]
    show (if 1=1/\off + len <= (x.l.map (arD k)).length then some (((x.l.map (arD k)).drop off).take len) else none)=some ((cutA x.l off len n).map (arD k))
    rw [cutA_eq x.len,if_pos ⟨rfl,by rw [List.length_map,x.len];exact h1⟩,List.map_take,List.map_drop]
   ·cases h
  ·cases h
 ·rename_i hd off l len
  split at h
  ·rename_i mt t2 x hl
   split at h
   ·rename_i a ha
    split at h
    ·rename_i y hy
     obtain ⟨e,rfl⟩:=Ty.cst_ok hy
     cases e
     obtain ⟨h1,h⟩:=F_gd h
     obtain ⟨c1,c2⟩:=rsl_cut ha h1
     refine ⟨_,h,?_,rfl⟩
     show (match s.er.lk hd with | some (.row _ k' es)=>if k'=1/\off + l + len <= es.length then some ((es.drop (off + l)).take len) else none | _=>none)=_
     rw [lk_er,hl]
     show (if 1=1/\off + l + len <= (sgD (t2.ds x)).length then some (((sgD (t2.ds x)).drop (off + l)).take len) else none)=_
     rw [if_pos ⟨rfl,c1⟩,c2]
    ·cases h
   ·cases h
  ·cases h
 ·cases h

mutual
def XV.hr:XV->List Hd
 | .sl h _ _ _=>[h]
 | .slw h _ _=>[h]
 | .asl h _ _=>[h]
 | .rsl h _ _ _=>[h]
 | .agg cs=>XV.hrL cs
 | .tup vs=>XV.hrL vs
 | .clo _ vs=>XV.hrL vs
 | _=>[]
def XV.hrL:List XV->List Hd
 | []=>[]
 | v :: vs=>v.hr ++ XV.hrL vs
end
theorem rowsL_app:∀ (a c:List AV),AV.rowsL (a ++ c)=AV.rowsL a ++ AV.rowsL c
 | [],c=>rfl
 | x :: a,c=>by show AV.rows x ++ AV.rowsL (a ++ c)=AV.rows x ++ AV.rowsL a ++ AV.rowsL c;rw [rowsL_app a c,List.append_assoc]
theorem rowsL_D:∀ l:List DV,AV.rowsL (l.map .D)=[]
 | []=>rfl
 | x :: l=>rowsL_D l
theorem rows_avOf {t:Ty} (x:t.T):AV.rows (avOf t x)=[]:=by
 cases hl:isLeaf t with
 | true=>cases t <;> first | rfl | (cases hl;done)
 | false=>rw [avOf_agg x hl];exact rowsL_D _
mutual
theorem hr_er [YL]:∀ v:XV,AV.rows v.er=v.hr
 | .d t x=>rows_avOf x
 | .agg cs=>hr_fcL cs
 | .tup vs=>hr_erL vs
 | .clo _ vs=>hr_erL vs
 | .any=>rfl
 | .un=>rfl
 | .ab=>rfl
 | .sc=>rfl
 | .ptr _ _=>rfl
 | .ept _ _ _ _=>rfl
 | .apt _ _=>rfl
 | .pa _ _ _=>rfl
 | .epa _ _ _ _ _=>rfl
 | .rop _ _ _=>rfl
 | .fl _ _=>rfl
 | .fln _=>rfl
 | .nl _=>rfl
 | .sl _ _ _ _=>rfl
 | .slw _ _ _=>rfl
 | .asl _ _ _=>rfl
 | .rpt _ _=>rfl
 | .rpa _ _ _=>rfl
 | .rsl _ _ _ _=>rfl
 | .mref _=>rfl
 | .itr _ _=>rfl
 | .c _=>rfl
 | .yld=>rfl
 | .gst _=>rfl
theorem hr_erL [YL]:∀ vs:List XV,AV.rowsL (XV.erL vs)=XV.hrL vs
 | []=>rfl
 | v :: vs=>by show AV.rows v.er ++ AV.rowsL (XV.erL vs)=_;rw [hr_er v,hr_erL vs];rfl
theorem hr_fc [YL]:∀ v:XV,AV.rowsL v.fc=v.hr
 | .d t x=>rowsL_D _
 | .agg cs=>hr_fcL cs
 | .tup vs=>by show AV.rowsL (XV.erL vs) ++ []=_;rw [hr_erL vs,List.append_nil];rfl
 | .clo _ vs=>by show AV.rowsL (XV.erL vs) ++ []=_;rw [hr_erL vs,List.append_nil];rfl
 | .any=>rfl
 | .un=>rfl
 | .ab=>rfl
 | .sc=>rfl
 | .ptr _ _=>rfl
 | .ept _ _ _ _=>rfl
 | .apt _ _=>rfl
 | .pa _ _ _=>rfl
 | .epa _ _ _ _ _=>rfl
 | .rop _ _ _=>rfl
 | .fl _ _=>rfl
 | .fln _=>rfl
 | .nl _=>rfl
 | .sl _ _ _ _=>rfl
 | .slw _ _ _=>rfl
 | .asl _ _ _=>rfl
 | .rpt _ _=>rfl
 | .rpa _ _ _=>rfl
 | .rsl _ _ _ _=>rfl
 | .mref _=>rfl
 | .itr _ _=>rfl
 | .c _=>rfl
 | .yld=>rfl
 | .gst _=>rfl
theorem hr_fcL [YL]:∀ vs:List XV,AV.rowsL (XV.fcL vs)=XV.hrL vs
 | []=>rfl
 | v :: vs=>by show AV.rowsL (v.fc ++ XV.fcL vs)=_;rw [rowsL_app,hr_fc v,hr_fcL vs];rfl
end
def xfz (s:XS):List Hd->List Hd
 | []=>[]
 | h :: l=>match s.lk h with
  | some _=>h :: xfz s l
  | none=>xfz s l
theorem xfz_ok [YL] (s:XS):∀ l:List Hd,fzL s.er.lk l=xfz s l
 | []=>rfl
 | h :: l=>by
  show (h :: l).filter _=_
  rw [List.filter_cons,lk_er]
  unfold xfz
  cases s.lk h with
  | none=>exact xfz_ok s l
  | some b=>exact congrArg (h :: ·) (xfz_ok s l)
def flD:Ty->Bool
 | .sl _=>false
 | .o _=>false
 | .p a c=>flD a && flD c
 | .w a=>flD a
 | _=>true
theorem flatLX:∀ (a c:List AV),AV.flatL (a ++ c)=(AV.flatL a && AV.flatL c)
 | [],c=>rfl
 | x :: a,c=>by show (AV.flat x && AV.flatL (a ++ c))=(AV.flat x && AV.flatL a && AV.flatL c);rw [flatLX a c,Bool.and_assoc]
theorem flatL_ds:∀ (t:Ty) (x:t.T),AV.flatL ((t.ds x).map .D)=flD t
 | .u,_=>rfl
 | .b,_=>rfl
 | .i _,_=>rfl
 | .s,_=>rfl
 | .p a c,v=>by
  show AV.flatL ((a.ds v.1 ++ c.ds v.2).map .D)=(flD a && flD c)
  rw [List.map_append,flatLX,flatL_ds a,flatL_ds c]
 | .w a,v=>flatL_ds a v
 | .ar n k,v=>by
  show AV.flatL ((v.l.map (DV.I k)).map .D)=true
  generalize v.l=l
  induction l with
  | nil=>rfl
  | cons x l ih=>exact ih
 | .sl t,v=>rfl
 | .o _,_=>rfl
theorem flat_avOf {t:Ty} (x:t.T):AV.flat (avOf t x)=flD t:=by
 cases hl:isLeaf t with
 | true=>cases t <;> first | rfl | (cases hl;done)
 | false=>rw [avOf_agg x hl];exact flatL_ds t x

mutual
def flX:XV->Bool
 | .d t _=>flD t
 | .any=>true
 | .un=>true
 | .ab=>true
 | .sc=>true
 | .c _=>true
 | .gst _=>true
 | .yld=>true
 | .agg cs=>flXL cs
 | .tup cs=>flXL cs
 | _=>false
def flXL:List XV->Bool
 | []=>true
 | v :: vs=>flX v && flXL vs
end
mutual
theorem flX_er [YL]:∀ v:XV,AV.flat v.er=flX v
 | .d t x=>flat_avOf x
 | .agg cs=>flX_fcL cs
 | .tup cs=>flX_erL cs
 | .clo _ _=>rfl
 | .any=>rfl
 | .un=>rfl
 | .ab=>rfl
 | .sc=>rfl
 | .ptr _ _=>rfl
 | .ept _ _ _ _=>rfl
 | .apt _ _=>rfl
 | .pa _ _ _=>rfl
 | .epa _ _ _ _ _=>rfl
 | .rop _ _ _=>rfl
 | .fl _ _=>rfl
 | .fln _=>rfl
 | .nl _=>rfl
 | .sl _ _ _ _=>rfl
 | .slw _ _ _=>rfl
 | .asl _ _ _=>rfl
 | .rpt _ _=>rfl
 | .rpa _ _ _=>rfl
 | .rsl _ _ _ _=>rfl
 | .mref _=>rfl
 | .itr _ _=>rfl
 | .c _=>rfl
 | .yld=>rfl
 | .gst _=>rfl
theorem flX_erL [YL]:∀ vs:List XV,AV.flatL (XV.erL vs)=flXL vs
 | []=>rfl
 | v :: vs=>by show (AV.flat v.er && AV.flatL (XV.erL vs))=(flX v && flXL vs);rw [flX_er v,flX_erL vs]
theorem flX_fc [YL]:∀ v:XV,AV.flatL v.fc=flX v
 | .d t x=>flatL_ds t x
 | .agg cs=>flX_fcL cs
 | .tup cs=>by show (AV.flatL (XV.erL cs) && true)=flXL cs;rw [Bool.and_true,flX_erL]
 | .clo _ _=>rfl
 | .any=>rfl
 | .un=>rfl
 | .ab=>rfl
 | .sc=>rfl
 | .ptr _ _=>rfl
 | .ept _ _ _ _=>rfl
 | .apt _ _=>rfl
 | .pa _ _ _=>rfl
 | .epa _ _ _ _ _=>rfl
 | .rop _ _ _=>rfl
 | .fl _ _=>rfl
 | .fln _=>rfl
 | .nl _=>rfl
 | .sl _ _ _ _=>rfl
 | .slw _ _ _=>rfl
 | .asl _ _ _=>rfl
 | .rpt _ _=>rfl
 | .rpa _ _ _=>rfl
 | .rsl _ _ _ _=>rfl
 | .mref _=>rfl
 | .itr _ _=>rfl
 | .c _=>rfl
 | .yld=>rfl
 | .gst _=>rfl
theorem flX_fcL [YL]:∀ vs:List XV,AV.flatL (XV.fcL vs)=flXL vs
 | []=>rfl
 | v :: vs=>by show AV.flatL (v.fc ++ XV.fcL vs)=(flX v && flXL vs);rw [flatLX,flX_fc v,flX_fcL vs]
end

@[reducible] def RT:List XS->Type
 | []=>Unit
 | [m]=>rty m.tys
 | m :: m2 :: l=>rty m.tys ⊕ RT (m2 :: l)
structure Sig where
 fn:Nat
 ent:XS
 out:List XS
 F:fty ent.tys (RT out)
def outS:(l:List XS)->RT l->XS
 | [],_=>⟨[],[],[]⟩
 | [m],v=>m.fill (ofR m.tys v)
 | m :: _ :: _,.inl v=>m.fill (ofR m.tys v)
 | _ :: m2 :: l,.inr v=>outS (m2 :: l) v
def XV.val:List (Nat × XV)->XV
 | [(_,v)]=>v
 | l=>.tup (l.map (·.2))
def XS.pv (o:XS):Option Value:=match o.env with
 | [(k,.c v)]=>match Nat.beq k 1000000 with
  | true=>some v
  | false=>none
 | _=>none
def OutOk [YL] (P:Program) (fn:Nat) (args:List AV) (bs:List (Option Blk)) (o:XS) (nbs:List Blk):Prop:=match o.pv with
 | some pv=>bs=[]->APan P fn args pv
 | none=>ACall P fn args bs (XV.val o.env).er (erB o.bs) nbs
def SigOk (P:Program) (g:Sig):Prop:=∀ [YL] (v:tup g.ent.tys) (r:RT g.out),apF g.ent.tys g.F v=some r->∀ nbs:List Blk,nbs.map some=erB (outS g.out r).own ->
 OutOk P g.fn ((g.ent.fill v).env.map fun p=>p.2.er) (erB (g.ent.fill v).bs) (outS g.out r) nbs
def TblOk (P:Program):List Sig->Prop
 | []=>True
 | g :: l=>SigOk P g/\TblOk P l
mutual
def fitV:XV->XV->Bool
 | .clo f ms,v=>match v with
  | .clo g vs=>Nat.beq f g && fitL ms vs
  | _=>false
 | .ptr _ _,v=>match v with
  | .ptr _ _=>true
  | _=>false
 | .apt _ _,v=>match v with
  | .apt _ _=>true
  | _=>false
 | .rpt _ _,v=>match v with
  | .rpt _ _=>true
  | _=>false
 | .mref _,v=>match v with
  | .mref _=>true
  | _=>false
 | .slw _ _ _,v=>match v with
  | .slw _ _ _=>true
  | .fln _=>true
  | _=>false
 | .nl _,v=>match v with
  | .fln _=>true
  | .nl _=>true
  | _=>false
 | .fln _,v=>match v with
  | .fln _=>true
  | _=>false
 | .c x,v=>match v with
  | .c y=>cEq x y
  | _=>false
 | .agg ms,v=>match v with
  | .agg vs=>fitL ms vs
  | _=>false
 | .sc,_=>true
 | .d _ _,v=>match v with
  | .ptr _ _=>false
  | .apt _ _=>false
  | .rpt _ _=>false
  | .mref _=>false
  | .clo _ _=>false
  | .c _=>false
  | .sc=>false
  | _=>true
 | _,_=>false
def fitL:List XV->List XV->Bool
 | [],[]=>true
 | m :: ms,v :: vs=>fitV m v && fitL ms vs
 | _,_=>false
end
def snds:List (Nat × XV)->List XV
 | []=>[]
 | p :: r=>p.2 :: snds r
def sget:List Sig->Nat->List XV->Option Sig
 | [],_,_=>none
 | g :: l,f,vs=>match Nat.beq g.fn f && fitL (snds g.ent.env) vs with
  | true=>some g
  | false=>sget l f vs
theorem sget_ok {P:Program} {vs:List XV}:∀ {l:List Sig} {f:Nat} {g:Sig},TblOk P l->sget l f vs=some g->SigOk P g/\g.fn=f
 | [],_,_,_,h=>by cases h
 | g0 :: l,f,g,ht,h=>by
  unfold sget at h
  split at h
  ·rename_i hb
   cases h
   rw [Bool.and_eq_true] at hb
   exact ⟨ht.1,Nat.eq_of_beq_eq_true hb.1⟩
  ·exact sget_ok ht.2 h
def sm? {α β γ:Type} (v:α ⊕ β) (f:α->Option γ) (g:β->Option γ):Option γ:=match v with
 | .inl a=>f a
 | .inr y=>g y
def xout:(l:List XS)->RT l->(XS->Option R)->Option R
 | [],_,_=>none
 | [m],v,K=>K (m.fill (ofR m.tys v))
 | m :: m2 :: l,v,K=>sm? v (fun a=>K (m.fill (ofR m.tys a))) fun y=>xout (m2 :: l) y K
theorem xout_ok:∀ {l:List XS} {v:RT l} {K:XS->Option R} {r:R},xout l v K=some r->K (outS l v)=some r
 | [],_,_,_,h=>by cases h
 | [_],_,_,_,h=>h
 | _ :: _ :: _,.inl _,_,_,h=>h
 | _ :: m2 :: l,.inr _,_,_,h=>xout_ok (l:=m2 :: l) h
def someL:List (Option XB)->Option (List XB)
 | []=>some []
 | some b :: r=>match someL r with
  | some l=>some (b :: l)
  | none=>none
 | none :: _=>none
theorem someL_ok [YL]:∀ {l:List (Option XB)} {bl:List XB},someL l=some bl->(bl.map XB.er).map some=erB l
 | [],_,h=>by cases h;rfl
 | some b :: r,bl,h=>by
  unfold someL at h
  split at h
  ·rename_i l hl
   cases h
   show some b.er :: (l.map XB.er).map some=some b.er :: erB r
   rw [someL_ok hl]
  ·cases h
 | none :: _,_,h=>by cases h
def xvAt:List XV->Nat->XV
 | [],_=>.any
 | v :: _,0=>v
 | _ :: r,i + 1=>xvAt r i
def keysOk:Nat->List (Nat × XV)->List XV->Bool
 | _,[],[]=>true
 | n,(k,_) :: r,_ :: vs=>Nat.beq k n && keysOk (n + 1) r vs
 | _,_,_=>false
theorem keysOk_ok {f:XV->AV}:∀ {l:List (Nat × XV)} {vs:List XV} {n:Nat} {ev:Nat->XV},keysOk n l vs=true->(∀ i,i < vs.length->ev (n + i)=xvAt vs i)->l.map (fun p=>f (ev p.1))=vs.map f
 | [],[],_,_,_,_=>rfl
 | (k,_) :: r,v :: vs,n,ev,h,he=>by
  have h:(Nat.beq k n && keysOk (n + 1) r vs)=true:=h
  rw [Bool.and_eq_true] at h
  have e0:ev k=v:=by rw [Nat.eq_of_beq_eq_true h.1];exact he 0 (Nat.succ_pos _)
  show f (ev k) :: r.map (fun p=>f (ev p.1))=f v :: vs.map f
  rw [e0,keysOk_ok h.2 fun i hi=>by rw [show n + 1 + i=n + (i + 1) by omega,he (i + 1) (Nat.succ_lt_succ hi)];rfl]
 | [],_ :: _,_,_,h,_=>by cases h
 | _ :: _,[],_,_,h,_=>by cases h
theorem convL_eq [YL] (lk:Look) (φ:Hd->Option Hd):∀ vs:List XV,AV.convL lk φ (XV.erL vs)=vs.map fun v=>AV.conv lk φ v.er
 | []=>rfl
 | v :: vs=>by show AV.conv _ _ v.er :: AV.convL _ _ (XV.erL vs)=_;rw [convL_eq lk φ vs];rfl
theorem erL_app [YL]:∀ a c:List XV,XV.erL (a ++ c)=XV.erL a ++ XV.erL c
 | [],_=>rfl
 | x :: a,c=>by show x.er :: XV.erL (a ++ c)=_;rw [erL_app a c];rfl
mutual
def flOX:XV->Bool
 | .d t _=>flD t
 | .any=>true
 | .un=>true
 | .ab=>true
 | .sc=>true
 | .c _=>true
 | .slw _ _ _=>true
 | .sl _ _ _ _=>true
 | .agg cs=>flOXL cs
 | .tup cs=>flOXL cs
 | _=>false
def flOXL:List XV->Bool
 | []=>true
 | v :: vs=>flOX v && flOXL vs
end
theorem flatOLX:∀ (a c:List AV),AV.flatOL (a ++ c)=(AV.flatOL a && AV.flatOL c)
 | [],_=>rfl
 | x :: a,c=>by show (AV.flatO x && AV.flatOL (a ++ c))=(AV.flatO x && AV.flatOL a && AV.flatOL c);rw [flatOLX a c,Bool.and_assoc]
theorem flatOL_D:∀ l:List DV,AV.flatOL (l.map .D)=AV.flatL (l.map .D)
 | []=>rfl
 | x :: l=>by show (DV.flat x && AV.flatOL (l.map .D))=(DV.flat x && AV.flatL (l.map .D));rw [flatOL_D l]
theorem flatO_avOf {t:Ty} (x:t.T):AV.flatO (avOf t x)=AV.flat (avOf t x):=by
 cases t with
 | u=>rfl
 | b=>rfl
 | i k=>rfl
 | s=>rfl
 | p a c=>exact flatOL_D _
 | w a=>exact flatOL_D _
 | ar n k=>exact flatOL_D _
 | sl t=>rfl
 | o t=>rfl
mutual
theorem flOX_er [YL]:∀ v:XV,flOX v=true->AV.flatO v.er=true
 | .d t x,h=>by show AV.flatO (avOf t x)=true;rw [flatO_avOf,flat_avOf];exact h
 | .agg cs,h=>flOX_fcL cs h
 | .tup cs,h=>flOX_erL cs h
 | .slw _ _ _,_=>rfl
 | .sl _ _ _ _,_=>rfl
 | .any,_=>rfl
 | .un,_=>rfl
 | .ab,_=>rfl
 | .sc,_=>rfl
 | .c _,_=>rfl
 | .ptr _ _,h=>by cases h
 | .ept _ _ _ _,h=>by cases h
 | .apt _ _,h=>by cases h
 | .pa _ _ _,h=>by cases h
 | .epa _ _ _ _ _,h=>by cases h
 | .rpt _ _,h=>by cases h
 | .rpa _ _ _,h=>by cases h
 | .rsl _ _ _ _,h=>by cases h
 | .rop _ _ _,h=>by cases h
 | .fl _ _,h=>by cases h
 | .fln _,h=>by cases h
 | .nl _,h=>by cases h
 | .asl _ _ _,h=>by cases h
 | .mref _,h=>by cases h
 | .itr _ _,h=>by cases h
 | .clo _ _,h=>by cases h
 | .yld,h=>by cases h
 | .gst _,h=>by cases h
theorem flOX_erL [YL]:∀ vs:List XV,flOXL vs=true->AV.flatOL (XV.erL vs)=true
 | [],_=>rfl
 | v :: vs,h=>by
  have h:(flOX v && flOXL vs)=true:=h
  rw [Bool.and_eq_true] at h
  show (AV.flatO v.er && AV.flatOL (XV.erL vs))=true
  rw [flOX_er v h.1,flOX_erL vs h.2];rfl
theorem flOX_fc [YL]:∀ v:XV,flOX v=true->AV.flatOL v.fc=true
 | .d t x,h=>by show AV.flatOL ((t.ds x).map .D)=true;rw [flatOL_D,flatL_ds];exact h
 | .agg cs,h=>flOX_fcL cs h
 | .tup cs,h=>by show (AV.flatOL (XV.erL cs) && true)=true;rw [flOX_erL cs h];rfl
 | .slw _ _ _,_=>rfl
 | .sl _ _ _ _,_=>rfl
 | .any,_=>rfl
 | .un,_=>rfl
 | .ab,_=>rfl
 | .sc,_=>rfl
 | .c _,_=>rfl
 | .ptr _ _,h=>by cases h
 | .ept _ _ _ _,h=>by cases h
 | .apt _ _,h=>by cases h
 | .pa _ _ _,h=>by cases h
 | .epa _ _ _ _ _,h=>by cases h
 | .rpt _ _,h=>by cases h
 | .rpa _ _ _,h=>by cases h
 | .rsl _ _ _ _,h=>by cases h
 | .rop _ _ _,h=>by cases h
 | .fl _ _,h=>by cases h
 | .fln _,h=>by cases h
 | .nl _,h=>by cases h
 | .asl _ _ _,h=>by cases h
 | .mref _,h=>by cases h
 | .itr _ _,h=>by cases h
 | .clo _ _,h=>by cases h
 | .yld,h=>by cases h
 | .gst _,h=>by cases h
theorem flOX_fcL [YL]:∀ vs:List XV,flOXL vs=true->AV.flatOL (XV.fcL vs)=true
 | [],_=>rfl
 | v :: vs,h=>by
  have h:(flOX v && flOXL vs)=true:=h
  rw [Bool.and_eq_true] at h
  show AV.flatOL (v.fc ++ XV.fcL vs)=true
  rw [flatOLX,flOX_fc v h.1,flOX_fcL vs h.2];rfl
end
def flBs:List XB->Bool
 | []=>true
 | .row true t _ :: l=>flD t && flBs l
 | _ :: _=>false
theorem flBs_er [YL]:∀ l:List XB,flBs l=true->(l.map XB.er).all Blk.flatR=true
 | [],_=>rfl
 | .row true t xs :: l,h=>by
  have h:(flD t && flBs l)=true:=h
  rw [Bool.and_eq_true] at h
  rw [List.map_cons,List.all_cons,flBs_er l h.2,Bool.and_true]
  show (xs.map t.ds).all (fun e=>e.all DV.flat)=true
  rw [List.all_map,List.all_eq_true]
  intro x _
  have:=flatL_ds t x
  rw [h.1] at this
  have key:∀ l:List DV,AV.flatL (l.map .D)=l.all DV.flat:=fun l=>by
   induction l with
   | nil=>rfl
   | cons d l ih=>show (DV.flat d && AV.flatL (l.map .D))=(DV.flat d && l.all DV.flat);rw [ih]
  rw [key] at this
  exact this
 | .row false _ _ :: _,h=>by cases h
 | .box _ :: _,h=>by cases h
 | .arr _ _ _ _ :: _,h=>by cases h
 | .rb _ _ _ :: _,h=>by cases h
 | .mp _ _ _ _ _ _ :: _,h=>by cases h
 | .it :: _,h=>by cases h
 | .sb _ _ _ :: _,h=>by cases h
def xflZ (al:Bool) (v:XV) (bl:List XB):Bool:=al && (flOX v && flBs bl)
def xfl (s:XS) (al:Bool) (v:XV) (bl:List XB) (hs:List Hd):List Hd:=match flX v,bl with
 | true,[]=>[]
 | _,_=>match xflZ al v bl with
  | true=>[]
  | false=>xfz s hs
theorem xfl_ok [YL] (s:XS) (al:Bool) (v:XV) (bl:List XB) (vs:List XV):xfl s al v bl (XV.hrL vs)=if AV.flat v.er=true/\bl.map XB.er=[] then [] else fzC (xflZ al v bl) (fzL s.er.lk (AV.rowsL (XV.erL vs))):=by
 unfold xfl
 rw [flX_er,hr_erL,xfz_ok]
 cases flX v with
 | false=>rw [if_neg (fun h=>by cases h.1)];rfl
 | true=>cases bl with
  | nil=>rw [if_pos ⟨rfl,rfl⟩]
  | cons b bl=>rw [if_neg (fun h=>by cases h.2)];rfl
def xcall2 (s:XS) (al:Bool) (vs:List XV) (o:XS) (K:XV->List XB->List Hd->Option R):Option R:=match someL o.own with
 | some bl=>K ((XV.val o.env).ren (backHd [] s.own.length)) (bl.map (XB.ren (backHd [] s.own.length))) (xfl s al (XV.val o.env) bl (XV.hrL vs))
 | none=>none
def isFln:XV->Bool
 | .fln _=>true
 | _=>false
def ksOf:List (Nat × XV)->List Bool
 | []=>[]
 | p :: r=>isFln p.2 :: ksOf r
def noFln:List (Nat × XV)->Bool
 | []=>true
 | p :: r=>!isFln p.2 && noFln r
theorem convK_no (lk:Look):∀ {l:List (Nat × XV)} (as:List AV),noFln l=true->AV.convK lk (ksOf l) as=AV.convL lk (fun _=>none) as
 | [],_,_=>rfl
 | p :: r,as,h=>by
  unfold noFln at h
  rw [Bool.and_eq_true,Bool.not_eq_true'] at h
  unfold ksOf
  rw [h.1]
  cases as with
  | nil=>rfl
  | cons a as =>
   show AV.conv _ _ a :: AV.convK lk (ksOf r) as=AV.conv _ _ a :: AV.convL lk _ as
   rw [convK_no lk as h.2]
def xcvK (s:XS):List (Nat × XV)->List XV->(List XV->Option R)->Option R
 | [],[],K=>K []
 | p :: ms,v :: vs,K=>match isFln p.2 with
  | true=>match v with
   | .fln t=>xcvK s ms vs fun l=>K (.fln t :: l)
   | _=>none
  | false=>xcv s (fun _=>none) v fun v'=>xcvK s ms vs fun l=>K (v' :: l)
 | _,_,_=>none
theorem xcvK_ok [YL] {s:XS} {r:R}:∀ {ms:List (Nat × XV)} {vs:List XV} {K:List XV->Option R},xcvK s ms vs K=some r->∃ l,K l=some r/\l.map XV.er=AV.convK s.er.lk (ksOf ms) (XV.erL vs)/\slP.slPL (RowAt s fun _=>none) l
 | [],[],K,h=>⟨[],h,rfl,trivial⟩
 | p :: ms,v :: vs,K,h=>by
  unfold xcvK at h
  unfold ksOf
  split at h
  ·rename_i hp
   rw [hp]
   split at h
   ·rename_i t
    obtain ⟨l,h,h1,h2⟩:=xcvK_ok h
    refine ⟨_,h,?_,trivial,h2⟩
    show AV.fl [] :: l.map XV.er=AV.fl [] :: AV.convK _ (ksOf ms) (XV.erL vs)
    rw [h1]
   ·cases h
  ·rename_i hp
   rw [hp]
   obtain ⟨v',h,h0,_,h3⟩:=xcv_ok h
   obtain ⟨l,h,h1,h2⟩:=xcvK_ok h
   refine ⟨_,h,?_,h3,h2⟩
   show v'.er :: l.map XV.er=AV.conv _ _ v.er :: AV.convK _ (ksOf ms) (XV.erL vs)
   rw [h1,h0]
 | [],_ :: _,_,h=>by cases h
 | _ :: _,[],_,h=>by cases h
theorem xcvK_fill [YL] {s:XS} {m:XS} {l:List XV} {ds:List DS} {v:tup m.tys} (h1:mtE m.env l=some ds) (h2:tupOf m.tys ds=some v) (hp:slP.slPL (RowAt s fun _=>none) l):(m.fill v).env.map (fun p=>p.2.er)=l.map XV.er:=by
 have hL:=tupOf_ok h2
 show (m.fil (sgs m.tys v)).env.map _=_
 rw [hL]
 obtain ⟨_,x2⟩:=mtE_ok (len:=lenF (lenBs m.bs (ds.drop (tysE m.env).length)) (lenBs m.own ((ds.drop (tysE m.env).length).drop (tysBs m.bs).length))) h1 (slPL.mono (fun h' n ⟨h,mt,t,xs,e1,e2,e3⟩=>by cases e1) hp)
 obtain ⟨e,x3,x4,x5⟩:=x2 []
 rw [List.append_nil] at x3
 show (filE _ m.env ds).1.map _=_
 rw [x3]
 exact x5
def xcallQ (s:XS) (al:Bool) (g:Sig) (vs:List XV) (K:XV->List XB->List Hd->Option R) (Kp:Value->Option R):Option R:=match g.ent.bs,g.ent.own with
 | [],[]=>xcvK s g.ent.env vs fun l=>match mtE g.ent.env l with
  | some ds=>match tupOf g.ent.tys ds with
   | some v=>bd? (apF g.ent.tys g.F v) fun r=>xout g.out r fun o=>match o.bs,o.pv with
    | [],none=>xcall2 s al vs o K
    | _,some pv=>match o.own,noFln g.ent.env with
     | [],true=>Kp pv
     | _,_=>none
    | _,_=>none
   | none=>none
  | none=>none
 | _,_=>none
def xcall1 (s:XS) (g:Sig) (vs:List XV) (K:XV->List XB->List Hd->Option R):Option R:=xcallQ s true g vs K fun _=>none
def xcall (T:List Sig) (s:XS) (vs:List XV) (K:XV->List XB->List Hd->Option R):XV->Option R
 | .clo fn caps=>match sget T fn (vs ++ caps) with
  | some g=>xcall1 s g (vs ++ caps) K
  | none=>none
 | _=>none
theorem bs_nil {m:XS} (h:m.bs=[]) (v:tup m.tys):(m.fill v).bs=[]:=by
 show (filBs _ m.bs _).1=[]
 rw [h];rfl
theorem renBL [YL] (ψ:Hd->Hd) (l:List XB):(l.map (XB.ren ψ)).map XB.er=(l.map XB.er).map (Blk.ren ψ):=by
 rw [List.map_map,List.map_map]
 congr 1
 funext b
 exact renB_er ψ b
theorem xcallQ_ok [YL] {P:Program} {g:Sig} (hs:SigOk P g) {s:XS} {al:Bool} {vs:List XV} {K:XV->List XB->List Hd->Option R} {Kp:Value->Option R} {r:R} (h:xcallQ s al g vs K Kp=some r) {KP:AV->List Blk->List Hd->Prop} (hK:∀ v nbs fz,K v nbs fz=some r->KP v.er (nbs.map XB.er) fz) :
  (∃ z rr nbs,(al=false->z=false)/\(z=true->AV.flatO rr=true/\nbs.all Blk.flatR=true)/\ACall P g.fn (AV.convK s.er.lk (ksOf g.ent.env) (XV.erL vs)) [] rr [] nbs /\
   KP (AV.ren (backHd [] s.er.nx) rr) (nbs.map (Blk.ren (backHd [] s.er.nx))) (if AV.flat rr=true/\nbs=[] then [] else fzC z (fzL s.er.lk (AV.rowsL (XV.erL vs))))) \/
   ∃ pv,APan P g.fn (AV.convL s.er.lk (fun _=>none) (XV.erL vs)) pv/\Kp pv=some r:=by
 unfold xcallQ at h
 split at h
 case h_2=>cases h
 rename_i hb ho
 obtain ⟨l,h,e1,hp⟩:=xcvK_ok h
 split at h
 case h_2=>cases h
 rename_i ds hds
 split at h
 case h_2=>cases h
 rename_i v hv
 obtain ⟨rr,hr,h⟩:=F_bd h
 have h:=xout_ok h
 have hargs:(g.ent.fill v).env.map (fun p=>p.2.er)=AV.convK s.er.lk (ksOf g.ent.env) (XV.erL vs):=(xcvK_fill hds hv hp).trans e1
 split at h
 ·rename_i hob hpv
  unfold xcall2 at h
  split at h
  case h_2=>cases h
  rename_i bl hbl
  have hcall:=hs v rr hr (bl.map XB.er) (someL_ok hbl)
  unfold OutOk at hcall
  rw [hpv] at hcall
  rw [hargs,bs_nil hb,hob] at hcall
  refine .inl ⟨xflZ al (XV.val (outS g.out rr).env) bl,_,_,fun e=>by unfold xflZ;rw [e];rfl,fun e=>?_,hcall,?_⟩
  ·unfold xflZ at e
   rw [Bool.and_eq_true,Bool.and_eq_true] at e
   exact ⟨flOX_er _ e.2.1,flBs_er _ e.2.2⟩
  have:=hK _ _ _ h
  rw [ren_er,renBL] at this
  rw [xfl_ok] at this
  exact this
 ·rename_i pv hpv
  split at h
  case h_2=>cases h
  rename_i hown hno
  have:=hs v rr hr [] (by rw [hown];rfl)
  unfold OutOk at this
  rw [hpv,hargs,bs_nil hb,convK_no _ _ hno] at this
  exact .inr ⟨pv,this rfl,h⟩
 ·cases h
def xcallP (T:List Sig) (s:XS) (vs:List XV) (K:XV->List XB->List Hd->Option R) (Kp:Value->Option R):XV->Option R
 | .clo fn caps=>match sget T fn (vs ++ caps) with
  | some g=>match noFln g.ent.env with
   | true=>xcallQ s false g (vs ++ caps) K Kp
   | false=>none
  | none=>none
 | _=>none
theorem xcallP_ok [YL] {P:Program} {T:List Sig} (hT:TblOk P T) {s:XS} {vs:List XV} {K:XV->List XB->List Hd->Option R} {Kp:Value->Option R} {r:R} {vf:XV} (h:xcallP T s vs K Kp vf=some r) {KP:AV->List Blk->List Hd->Prop} (hK:∀ v nbs fz,K v nbs fz=some r->KP v.er (nbs.map XB.er) fz) :
  ∃ fn caps,vf.er=.clo fn caps/\((∃ rr nbs,ACall P fn (AV.convL s.er.lk (fun _=>none) (XV.erL vs ++ caps)) [] rr [] nbs /\
   KP (AV.ren (backHd [] s.er.nx) rr) (nbs.map (Blk.ren (backHd [] s.er.nx))) (if AV.flat rr=true/\nbs=[] then [] else fzL s.er.lk (AV.rowsL (XV.erL vs ++ caps)))) \/
   ∃ pv,APan P fn (AV.convL s.er.lk (fun _=>none) (XV.erL vs ++ caps)) pv/\Kp pv=some r):=by
 unfold xcallP at h
 split at h
 case h_2=>cases h
 rename_i fn caps
 split at h
 case h_2=>cases h
 rename_i g hg
 obtain ⟨hs,hfn⟩:=sget_ok hT hg
 split at h
 case h_2=>cases h
 rename_i hno
 rcases xcallQ_ok hs h hK with ⟨z,rr,nbs,hz,_,h1,h2⟩ | h1
 ·rw [convK_no _ _ hno,hfn,erL_app] at h1
  rw [hz rfl,erL_app] at h2
  exact ⟨fn,XV.erL caps,rfl,.inl ⟨rr,nbs,h1,h2⟩⟩
 ·rw [hfn,erL_app] at h1
  exact ⟨fn,XV.erL caps,rfl,.inr h1⟩
theorem xcall_ok [YL] {P:Program} {T:List Sig} (hT:TblOk P T) {s:XS} {vs:List XV} {K:XV->List XB->List Hd->Option R} {r:R} {vf:XV} (h:xcall T s vs K vf=some r) {KP:AV->List Blk->List Hd->Prop} (hK:∀ v nbs fz,K v nbs fz=some r->KP v.er (nbs.map XB.er) fz) :
  ∃ fn caps ks z rr nbs,vf.er=.clo fn caps/\(z=true->AV.flatO rr=true/\nbs.all Blk.flatR=true)/\ACall P fn (AV.convK s.er.lk ks (XV.erL vs ++ caps)) [] rr [] nbs /\
   KP (AV.ren (backHd [] s.er.nx) rr) (nbs.map (Blk.ren (backHd [] s.er.nx))) (if AV.flat rr=true/\nbs=[] then [] else fzC z (fzL s.er.lk (AV.rowsL (XV.erL vs ++ caps)))):=by
 unfold xcall at h
 split at h
 case h_2=>cases h
 rename_i fn caps
 split at h
 case h_2=>cases h
 rename_i g hg
 obtain ⟨hs,hfn⟩:=sget_ok hT hg
 rcases xcallQ_ok hs h hK with ⟨z,rr,nbs,_,hz,h1,h2⟩ | ⟨pv,_,h⟩
 ·rw [hfn,erL_app] at h1
  rw [erL_app] at h2
  exact ⟨fn,XV.erL caps,_,z,rr,nbs,rfl,hz,h1,h2⟩
 ·cases h
end Go.Eng

namespace Go.Eng
open Go.RowKit
variable {R:Type}

def w1 (s:XS) (x:Operand) (f:XV->Option R):Option R:=match noG x with
 | true=>f (s.ev x)
 | false=>none
theorem w1_ok [YL] {s:XS} {x:Operand} {f:XV->Option R} {r:R} (h:w1 s x f=some r):f (s.ev x)=some r/\s.er.ev x=(s.ev x).er:=by
 unfold w1 at h
 split at h
 ·exact ⟨h,ev_ok s ‹_›⟩
 ·cases h
def wL (s:XS):List Operand->(List XV->Option R)->Option R
 | [],f=>f []
 | x :: xs,f=>w1 s x fun v=>wL s xs fun vs=>f (v :: vs)
theorem wL_ok [YL] {s:XS} {r:R}:∀ {xs:List Operand} {f:List XV->Option R},wL s xs f=some r->∃ vs,f vs=some r/\xs.map s.er.ev=XV.erL vs
 | [],f,h=>⟨[],h,rfl⟩
 | x :: xs,f,h=>by
  obtain ⟨h,e1⟩:=w1_ok h
  obtain ⟨vs,h,e2⟩:=wL_ok h
  exact ⟨s.ev x :: vs,h,by show s.er.ev x :: xs.map s.er.ev=_;rw [e1,e2];rfl⟩
def xpick (c:Bool) (K:XV->Option R):XV->XV->Option R
 | .d t x,v=>match v with
  | .d t' y=>match t'.cst t y with
   | some y=>K (.d t (cond c x y))
   | none=>if? c (K (.d t x)) (K (.d t' y))
  | v=>if? c (K (.d t x)) (K v)
 | u,v=>if? c (K u) (K v)
theorem xpick_ok [YL] {c:Bool} {K:XV->Option R} {KP:AV->Prop} {r:R} {a b:XV} (h:xpick c K a b=some r) (hK:∀ v,K v=some r->KP v.er):KP (if c=true then a.er else b.er):=by
 have hif:∀ {a b:XV},if? c (K a) (K b)=some r->KP (if c=true then a.er else b.er):=fun h=>by
  rcases F_if h with ⟨rfl,h⟩ | ⟨rfl,h⟩
  ·exact hK _ h
  ·exact hK _ h
 unfold xpick at h
 split at h
 ·split at h
  ·split at h
   ·rename_i y hy
    obtain ⟨e,rfl⟩:=Ty.cst_ok hy
    subst e
    have:=hK _ h
    cases c <;> exact this
   ·exact hif h
  ·exact hif h
 ·exact hif h
def nth:List XV->Nat->Option XV
 | [],_=>none
 | v :: _,0=>some v
 | _ :: r,i + 1=>nth r i
theorem nth_ok [YL]:∀ {l:List XV} {i:Nat} {v:XV},nth l i=some v->(XV.erL l)[i]?=some v.er
 | [],_,_,h=>by cases h
 | v :: _,0,_,h=>by cases h;rfl
 | _ :: r,i + 1,v,h=>by
  have:=nth_ok (l:=r) (i:=i) h
  show (_ :: XV.erL r)[i + 1]?=_
  rw [List.getElem?_cons_succ];exact this
def xsame1 (kd:Nat):XV->XV->Option Bool
 | .d .b x,.d .b y=>match Nat.beq kd 0 with
  | true=>some (x == y)
  | false=>none
 | .d (.i k) x,.d (.i k') y=>if kd=1/\k=k' then some (x == y) else none
 | .d .s x,.d .s y=>match Nat.beq kd 2 with
  | true=>some (x == y)
  | false=>none
 | _,_=>none
def andL:List Nat->Bool->Bool->Bool
 | [],p,_=>p
 | _ :: _,p,q=>p && q
def xsame:List Nat->List XV->List XV->Option Bool
 | [],[],[]=>some true
 | kd :: kds,x :: xs,y :: ys=>match xsame1 kd x y with
  | some p=>match xsame kds xs ys with
   | some q=>some (andL kds p q)
   | none=>none
  | none=>none
 | _,_,_=>none
theorem same_nil {xs ys:List XV} {q:Bool} (h:xsame [] xs ys=some q):q=true:=by
 cases xs <;> cases ys <;> first | (cases h;rfl;done) | (cases h;done)
theorem xsame_ok [YL]:∀ {kds:List Nat} {xs ys:List XV} {b:Bool},xsame kds xs ys=some b->sameCells kds (XV.fcL xs) (XV.fcL ys)=some b
 | [],xs,ys,b,h=>by
  cases xs <;> cases ys <;> first | (cases h;rfl;done) | (cases h;done)
 | kd :: kds,[],ys,b,h=>by cases h
 | kd :: kds,x :: xs,[],b,h=>by cases h
 | kd :: kds,x :: xs,y :: ys,b,h=>by
  unfold xsame at h
  split at h
  case h_2=>cases h
  rename_i p hp
  split at h
  case h_2=>cases h
  rename_i q hq
  cases h
  have e:andL kds p q=(p && q):=by
   cases kds with
   | nil=>rw [same_nil hq,Bool.and_true];rfl
   | cons _ _=>rfl
  have ih:=xsame_ok hq
  obtain ⟨d1,d2,e1,e2,e3⟩:∃ d1 d2,x.fc=[.D d1]/\y.fc=[.D d2]/\DV.same kd d1 d2=some p:=by
   unfold xsame1 at hp
   split at hp
   ·split at hp
    ·rename_i hb
     obtain rfl:=Nat.eq_of_beq_eq_true hb
     exact ⟨_,_,rfl,rfl,hp⟩
    ·cases hp
   ·exact ⟨_,_,rfl,rfl,hp⟩
   ·split at hp
    ·rename_i hb
     obtain rfl:=Nat.eq_of_beq_eq_true hb
     exact ⟨_,_,rfl,rfl,hp⟩
    ·cases hp
   ·cases hp
  show sameCells (kd :: kds) (x.fc ++ XV.fcL xs) (y.fc ++ XV.fcL ys)=_
  rw [e1,e2]
  show (match DV.same kd d1 d2,sameCells kds (XV.fcL xs) (XV.fcL ys) with | some p,some q=>some (p && q) | _,_=>none)=_
  rw [e3,ih,e]

def xfaddr (off:Nat) (K:XV->Option R):XV->Option R
 | .ptr h o=>K (.ptr h (o + off))
 | .ept h t ix o=>match Nat.beq t.n 1 with
  | true=>match o,off with
   | 0,0=>K (.ept h t ix 0)
   | _,_=>none
  | false=>K (.ept h t ix (o + off))
 | .apt h ix=>K (.apt h (ix + off))
 | .rpt h o=>K (.rpt h (o + off))
 | .rop t x o=>K (.rop t x (o + off))
 | _=>none
def ixA (o j k:Nat):Nat:=match o,k with
 | 0,1=>j
 | o,1=>o + j
 | o,k=>o + j * k
theorem ixA_eq (o j k:Nat):ixA o j k=o + j * k:=by
 unfold ixA
 split
 ·omega
 ·omega
 ·rfl
def xiaddr (k:Nat) (j:Int) (K:XV->Option R):XV->Option R
 | .d (.sl t) xs=>match Nat.beq t.n k with
  | true=>get? xs j fun x=>K (.rop t x 0)
  | false=>none
 | .fl t xs=>match Nat.beq t.n k with
  | true=>get? xs j fun x=>K (.rop t x 0)
  | false=>none
 | .slw h t len=>match Nat.beq t.n k with
  | true=>gd? (0 <= j) (gd? (j < (len:Int)) (K (.ept h t j.toNat 0)))
  | false=>none
 | .sl h t off len=>match Nat.beq t.n k with
  | true=>gd? (0 <= j) (gd? (j < (len:Int)) (K (.ept h t (off + j.toNat) 0)))
  | false=>none
 | .asl h off len=>match Nat.beq 1 k with
  | true=>gd? (0 <= j) (gd? (j < (len:Int)) (K (.apt h (ixA off j.toNat 1))))
  | false=>none
 | .rsl h off l len=>match Nat.beq 1 k with
  | true=>gd? (0 <= j) (gd? (j < (len:Int)) (K (.rpa h off (ixA l j.toNat 1))))
  | false=>none
 | _=>none
def xiaA (m k:Nat) (j:Int) (K:XV->Option R):XV->Option R
 | .apt h ix=>gd? (0 <= j) (gd? (j < (m:Int)) (K (.apt h (ixA ix j.toNat k))))
 | .rop t x o=>gd? (0 <= j) (gd? (j < (m:Int)) (K (.rop t x (ixA o j.toNat k))))
 | .ptr h o=>match Nat.beq k 1 with
  | true=>gd? (0 <= j) (gd? (j < (m:Int)) (K (.pa h o j.toNat)))
  | false=>gd? (0 <= j) (gd? (j < (m:Int)) (K (.ptr h (ixA o j.toNat k))))
 | .rpt h o=>match Nat.beq k 1 with
  | true=>gd? (0 <= j) (gd? (j < (m:Int)) (K (.rpa h o j.toNat)))
  | false=>gd? (0 <= j) (gd? (j < (m:Int)) (K (.rpt h (ixA o j.toNat k))))
 | .ept h t ix o=>match Nat.beq t.n 1,Nat.beq k 1 with
  | false,true=>gd? (0 <= j) (gd? (j < (m:Int)) (K (.epa h t ix o j.toNat)))
  | _,_=>none
 | _=>none
def xslice (s:XS) (k:Nat) (lo hi mx:Option Operand) (K:XV->Option R):XV->Option R
 | .d (.sl t) xs=>match Nat.beq t.n k with
  | true=>match mx with
   | none=>xnat s hi xs.length fun h=>xnat s lo 0 fun l=>gd? (l <= h) (gd? (h <= xs.length) (K (.d (.sl t) ((xs.drop l).take (h - l)))))
   | some _=>match hi with
    | none=>none
    | some _=>xnat s mx xs.length fun m=>xnat s hi xs.length fun h=>xnat s lo 0 fun l=>gd? (l <= h) (gd? (h <= xs.length) (gd? (h=m) (K (.fl t ((xs.drop l).take (h - l))))))
  | false=>none
 | .fln t=>match mx with
  | none=>xnat s hi 0 fun h=>xnat s lo 0 fun l=>gd? (l <= h) (gd? (h <= 0) (K (.fln t)))
  | some _=>none
 | .slw hd t len=>match Nat.beq t.n k,mx with
  | true,none=>match lo,hi with
   | none,none=>K (.slw hd t len)
   | none,hi=>xnat s hi len fun h=>gd? (h <= len) (K (.sl hd t 0 h))
   | lo,hi=>xnat s hi len fun h=>xnat s lo 0 fun l=>gd? (l <= h) (gd? (h <= len) (K (.sl hd t l (h - l))))
  | _,_=>none
 | .sl hd t off len=>match Nat.beq t.n k,mx with
  | true,none=>xnat s hi len fun h=>xnat s lo 0 fun l=>gd? (l <= h) (gd? (h <= len) (K (.sl hd t (off + l) (h - l))))
  | _,_=>none
 | .asl hd off len=>match Nat.beq 1 k,mx with
  | true,none=>xnat s hi len fun h=>xnat s lo 0 fun l=>gd? (l <= h) (gd? (h <= len) (K (.asl hd (ixA off l 1) (h - l))))
  | _,_=>none
 | .rsl hd off l0 len=>match Nat.beq 1 k,mx with
  | true,none=>xnat s hi len fun h=>xnat s lo 0 fun l=>gd? (l <= h) (gd? (h <= len) (K (.rsl hd off (ixA l0 l 1) (h - l))))
  | _,_=>none
 | _=>none
theorem xfaddr_ok [YL] {off:Nat} {K:XV->Option R} {r:R} {v:XV} (h:xfaddr off K v=some r) {KP:AV->Prop} (hK:∀ v,K v=some r->KP v.er) :
  match v.er with
  | .ptr h o=>KP (.ptr h (o + off))
  | .eptr h k ix o=>KP (AV.eadd h k ix o off)
  | .rop ds=>KP (.rop (ds.drop off))
  | _=>False:=by
 unfold xfaddr at h
 split at h
 ·exact hK _ h
 ·rename_i hd t ix o
  show KP (AV.eadd hd t.n ix o off)
  unfold AV.eadd
  split at h
  ·rename_i hb
   have hb:=Nat.eq_of_beq_eq_true hb
   split at h
   ·have:=hK _ h
    simp only [XV.er,hb] at this
    rw [if_pos hb];exact this
   ·cases h
  ·rename_i hb
   rw [if_neg (fun e=>by rw [e] at hb;cases hb)]
   exact hK _ h
 ·rename_i hd ix
  show KP (AV.eadd hd 1 ix 0 off)
  unfold AV.eadd
  rw [if_pos rfl]
  exact hK _ h
 ·rename_i hd ix
  show KP (AV.eadd hd 1 ix 0 off)
  unfold AV.eadd
  rw [if_pos rfl]
  exact hK _ h
 ·rename_i t x o
  have:=hK _ h
  simp only [XV.er] at this |-
  rw [List.drop_drop];exact this
 ·cases h
theorem xiaddr_ok [YL] {k:Nat} {j:Int} {K:XV->Option R} {r:R} {v:XV} (h:xiaddr k j K v=some r) {KP:AV->Prop} (hK:∀ v,K v=some r->KP v.er):0 <= j /\
  match v.er with
  | .D (.L es)=>∃ e,es[j.toNat]?=some e/\e.length=k/\KP (.rop e)
  | .fl es=>∃ e,es[j.toNat]?=some e/\e.length=k/\KP (.rop e)
  | .sl h k' off len=>k'=k/\j < len/\KP (.eptr h k (off + j.toNat) 0)
  | _=>False:=by
 unfold xiaddr at h
 split at h
 ·rename_i t xs
  split at h
  ·rename_i hb
   obtain ⟨x,h0,hx,h⟩:=F_get h
   refine ⟨h0,t.ds x,by rw [List.getElem?_map,hx];rfl,by rw [Ty.ds_len];exact Nat.eq_of_beq_eq_true hb,hK _ h⟩
  ·cases h
 ·rename_i t xs
  split at h
  ·rename_i hb
   obtain ⟨x,h0,hx,h⟩:=F_get h
   refine ⟨h0,t.ds x,by rw [List.getElem?_map,hx];rfl,by rw [Ty.ds_len];exact Nat.eq_of_beq_eq_true hb,hK _ h⟩
  ·cases h
 ·split at h
  ·rename_i hb
   obtain ⟨h0,h⟩:=F_gd h
   obtain ⟨h1,h⟩:=F_gd h
   have hb:=Nat.eq_of_beq_eq_true hb
   have:=hK _ h
   simp only [XV.er,hb] at this
   exact ⟨h0,hb,h1,by rw [Nat.zero_add];exact this⟩
  ·cases h
 ·split at h
  ·rename_i hb
   obtain ⟨h0,h⟩:=F_gd h
   obtain ⟨h1,h⟩:=F_gd h
   have hb:=Nat.eq_of_beq_eq_true hb
   have:=hK _ h
   simp only [XV.er,hb] at this
   exact ⟨h0,hb,h1,this⟩
  ·cases h
 ·split at h
  ·rename_i hb
   obtain ⟨h0,h⟩:=F_gd h
   obtain ⟨h1,h⟩:=F_gd h
   have hb:=Nat.eq_of_beq_eq_true hb
   subst hb
   have:=hK _ h
   rw [ixA_eq,Nat.mul_one] at this
   exact ⟨h0,rfl,h1,this⟩
  ·cases h
 ·rename_i hd off l len
  split at h
  ·rename_i hb
   obtain ⟨h0,h⟩:=F_gd h
   obtain ⟨h1,h⟩:=F_gd h
   have hb:=Nat.eq_of_beq_eq_true hb
   subst hb
   have:=hK _ h
   simp only [XV.er,ixA_eq,Nat.mul_one] at this
   exact ⟨h0,rfl,h1,by rw [Nat.add_assoc];exact this⟩
  ·cases h
 ·cases h
theorem xiaA_ok [YL] {m k:Nat} {j:Int} {K:XV->Option R} {r:R} {v:XV} (h:xiaA m k j K v=some r) {KP:AV->Prop} (hK:∀ v,K v=some r->KP v.er):0 <= j/\j < (m:Int) /\
  match v.er with
  | .ptr h o=>KP (.ptr h (o + j.toNat * k))
  | .eptr h k' ix o=>KP (AV.eadd h k' ix o (j.toNat * k))
  | .rop ds=>KP (.rop (ds.drop (j.toNat * k)))
  | _=>False:=by
 unfold xiaA at h
 split at h
 ·rename_i hd ix
  obtain ⟨h0,h⟩:=F_gd h
  obtain ⟨h1,h⟩:=F_gd h
  have:=hK _ h
  rw [ixA_eq] at this
  refine ⟨h0,h1,?_⟩
  show KP (AV.eadd hd 1 ix 0 (j.toNat * k))
  unfold AV.eadd
  rw [if_pos rfl]
  exact this
 ·rename_i t x o
  obtain ⟨h0,h⟩:=F_gd h
  obtain ⟨h1,h⟩:=F_gd h
  have:=hK _ h
  rw [ixA_eq] at this
  refine ⟨h0,h1,?_⟩
  simp only [XV.er] at this |-
  rw [List.drop_drop];exact this
 ·rename_i hd o
  split at h
  ·rename_i hb
   obtain ⟨h0,h⟩:=F_gd h
   obtain ⟨h1,h⟩:=F_gd h
   have hb:=Nat.eq_of_beq_eq_true hb
   subst hb
   have:=hK _ h
   refine ⟨h0,h1,?_⟩
   show KP (.ptr hd (o + j.toNat * 1))
   rw [Nat.mul_one];exact this
  ·obtain ⟨h0,h⟩:=F_gd h
   obtain ⟨h1,h⟩:=F_gd h
   have:=hK _ h
   rw [ixA_eq] at this
   exact ⟨h0,h1,this⟩
 ·rename_i hd o
  split at h
  ·rename_i hb
   obtain ⟨h0,h⟩:=F_gd h
   obtain ⟨h1,h⟩:=F_gd h
   have hb:=Nat.eq_of_beq_eq_true hb
   subst hb
   have:=hK _ h
   refine ⟨h0,h1,?_⟩
   show KP (AV.eadd hd 1 o 0 (j.toNat * 1))
   unfold AV.eadd
   rw [if_pos rfl,Nat.mul_one]
   exact this
  ·obtain ⟨h0,h⟩:=F_gd h
   obtain ⟨h1,h⟩:=F_gd h
   have:=hK _ h
   rw [ixA_eq] at this
   refine ⟨h0,h1,?_⟩
   show KP (AV.eadd hd 1 o 0 (j.toNat * k))
   unfold AV.eadd
   rw [if_pos rfl]
   exact this
 ·rename_i hd t ix o
  split at h
  ·rename_i hb1 hb
   obtain ⟨h0,h⟩:=F_gd h
   obtain ⟨h1,h⟩:=F_gd h
   have hb:=Nat.eq_of_beq_eq_true hb
   subst hb
   have:=hK _ h
   refine ⟨h0,h1,?_⟩
   show KP (AV.eadd hd t.n ix o (j.toNat * 1))
   unfold AV.eadd
   rw [if_neg (fun e=>by rw [e] at hb1;cases hb1),Nat.mul_one]
   exact this
  ·cases h
 ·cases h
theorem xslice_ok [YL] {s:XS} {k:Nat} {lo hi mx:Option Operand} {K:XV->Option R} {r:R} {v:XV} (h:xslice s k lo hi mx K v=some r) {KP:AV->Prop} (hK:∀ v,K v=some r->KP v.er):aslice k s.er.ev lo hi mx KP v.er:=by
 unfold xslice at h
 split at h
 ·rename_i t xs
  split at h
  ·rename_i hb
   have hb:=Nat.eq_of_beq_eq_true hb
   have hu:Uni k (xs.map t.ds):=hb ▸ uni_T t xs
   have hl:(xs.map t.ds).length=xs.length:=List.length_map _
   split at h
   ·refine ⟨hu,?_⟩
    rw [hl]
    rw [show ∀ (Q:Nat->Prop),optInt s.er.ev none xs.length Q=Q xs.length from fun _=>rfl]
    refine xnat_ok h fun hh h=>xnat_ok h fun l h=>?_
    obtain ⟨h1,h⟩:=F_gd h
    obtain ⟨h2,h⟩:=F_gd h
    refine ⟨h1,h2,fun e=>Bool.noConfusion e,?_⟩
    have:=hK _ h
    simp only [XV.er,avOf,List.map_take,List.map_drop] at this
    exact this
   ·split at h
    ·cases h
    ·refine ⟨hu,?_⟩
     rw [hl]
     refine xnat_ok h fun m h=>xnat_ok h fun hh h=>xnat_ok h fun l h=>?_
     obtain ⟨h1,h⟩:=F_gd h
     obtain ⟨h2,h⟩:=F_gd h
     obtain ⟨h3,h⟩:=F_gd h
     refine ⟨h1,h2,fun _=>⟨rfl,h3⟩,?_⟩
     have:=hK _ h
     simp only [XV.er,List.map_take,List.map_drop] at this
     rw [if_pos (show (some _).isSome=true from rfl)];exact this
  ·cases h
 ·rename_i t
  split at h
  ·refine ⟨fun e he=>(by simp at he),?_⟩
   refine (show ∀ Q:Nat->Prop,Q 0->optInt s.er.ev none ([]:List (List DV)).length Q from fun _ h=>h) _ ?_
   refine xnat_ok (d:=0) h fun hh h=>xnat_ok h fun l h=>?_
   obtain ⟨h1,h⟩:=F_gd h
   obtain ⟨h2,h⟩:=F_gd h
   refine ⟨h1,h2,Nat.le_refl _,fun e=>Bool.noConfusion e,?_⟩
   have:=hK _ h
   rw [if_pos (show hh=0 by omega),List.drop_nil,List.take_nil]
   exact this
  ·cases h
 ·rename_i hd t len
  split at h
  ·rename_i hb
   have hb:=Nat.eq_of_beq_eq_true hb
   split at h
   ·refine ⟨hb,rfl,?_⟩
    show 0 <= len/\len <= len/\_
    refine ⟨Nat.zero_le _,Nat.le_refl _,?_⟩
    have:=hK _ h
    simp only [XV.er,hb] at this
    exact this
   ·refine ⟨hb,rfl,xnat_ok h fun hh h=>?_⟩
    obtain ⟨h2,h⟩:=F_gd h
    show 0 <= hh/\hh <= len/\_
    refine ⟨Nat.zero_le _,h2,?_⟩
    have:=hK _ h
    simp only [XV.er,hb] at this
    exact this
   ·refine ⟨hb,rfl,xnat_ok h fun hh h=>xnat_ok h fun l h=>?_⟩
    obtain ⟨h1,h⟩:=F_gd h
    obtain ⟨h2,h⟩:=F_gd h
    refine ⟨h1,h2,?_⟩
    have:=hK _ h
    simp only [XV.er,hb] at this
    rw [Nat.zero_add];exact this
  ·cases h
 ·rename_i hd t off len
  split at h
  ·rename_i hb
   have hb:=Nat.eq_of_beq_eq_true hb
   refine ⟨hb,rfl,xnat_ok h fun hh h=>xnat_ok h fun l h=>?_⟩
   obtain ⟨h1,h⟩:=F_gd h
   obtain ⟨h2,h⟩:=F_gd h
   refine ⟨h1,h2,?_⟩
   have:=hK _ h
   simp only [XV.er,hb] at this
   exact this
  ·cases h
 ·rename_i hd off len
  split at h
  ·rename_i hb
   have hb:=Nat.eq_of_beq_eq_true hb
   refine ⟨hb,rfl,xnat_ok h fun hh h=>xnat_ok h fun l h=>?_⟩
   obtain ⟨h1,h⟩:=F_gd h
   obtain ⟨h2,h⟩:=F_gd h
   refine ⟨h1,h2,?_⟩
   have:=hK _ h
   rw [ixA_eq,Nat.mul_one] at this
   subst hb
   exact this
  ·cases h
 ·rename_i hd off l0 len
  split at h
  ·rename_i hb
   have hb:=Nat.eq_of_beq_eq_true hb
   refine ⟨hb,rfl,xnat_ok h fun hh h=>xnat_ok h fun l h=>?_⟩
   obtain ⟨h1,h⟩:=F_gd h
   obtain ⟨h2,h⟩:=F_gd h
   refine ⟨h1,h2,?_⟩
   have:=hK _ h
   simp only [XV.er,ixA_eq,Nat.mul_one] at this
   subst hb
   rw [Nat.add_assoc]
   exact this
  ·cases h
 ·cases h
end Go.Eng

namespace Go.Eng
open Go.RowKit
variable {R:Type}

def bytesI (xs:List Int):Str:=xs.map fun n=>UInt8.ofNat n.toNat
theorem bytesOf_map:∀ {xs:List Int},bytesOf (xs.map (Ty.i .u8).ds)=some (bytesI xs)
 | []=>rfl
 | x :: xs=>by
  have ih:=bytesOf_map (xs:=xs)
  show (bytesOf (xs.map (Ty.i .u8).ds)).map _=_
  rw [ih];rfl
def szL:List XV->Nat
 | []=>0
 | v :: r=>v.sz + szL r
theorem szL_ok [YL]:∀ l:List XV,(XV.fcL l).length=szL l
 | []=>rfl
 | v :: r=>by show (v.fc ++ XV.fcL r).length=v.sz + szL r;rw [List.length_append,fc_len,szL_ok r]
theorem dataX:∀ l:List DV,AV.data (l.map .D)=some l
 | []=>rfl
 | x :: l=>by show (AV.data (l.map .D)).map (x :: ·)=_;rw [dataX l];rfl

def zl:Ty->List XV
 | .u=>[]
 | .b=>[.d .b false]
 | .i k=>[.d (.i k) 0]
 | .s=>[.d .s []]
 | .p a c=>zl a ++ zl c
 | .w a=>zl a
 | .ar n k=>[.d (.ar n k) (Arr.zero n)]
 | .sl t=>[.fln t]
 | .o t=>[.fln t]
def zcells:Ty->List AV
 | .u=>[]
 | .b=>[.D (.B false)]
 | .i k=>[.D (.I k 0)]
 | .s=>[.D (.S [])]
 | .p a c=>zcells a ++ zcells c
 | .w a=>zcells a
 | .ar n k=>List.replicate n (.D (.I k 0))
 | .sl _=>[.fl []]
 | .o _=>[.fl []]
theorem zl_cells [YL]:∀ t:Ty,XV.fcL (zl t)=zcells t
 | .u=>rfl
 | .b=>rfl
 | .i _=>rfl
 | .s=>rfl
 | .p a c=>by show XV.fcL (zl a ++ zl c)=zcells a ++ zcells c;rw [fcL_app,zl_cells a,zl_cells c]
 | .w a=>zl_cells a
 | .ar n k=>by
  show (((List.replicate n (0:Int)).map (DV.I k)).map AV.D) ++ []=List.replicate n (.D (.I k 0))
  rw [List.append_nil,List.map_replicate,List.map_replicate]
 | .sl _=>rfl
 | .o _=>rfl
def zeq:List AV->List AV->Bool
 | [],[]=>true
 | .D (.B x) :: r,.D (.B y) :: r'=>(x == y) && zeq r r'
 | .D (.I k x) :: r,.D (.I k' y) :: r'=>decide (k=k') && ((x == y) && zeq r r')
 | .D (.S x) :: r,.D (.S y) :: r'=>(x == y) && zeq r r'
 | .fl [] :: r,.fl [] :: r'=>zeq r r'
 | .D (.L []) :: r,.D (.L []) :: r'=>zeq r r'
 | _,_=>false
theorem zeq_ok:∀ {a c:List AV},zeq a c=true->a=c:=by
 intro a
 induction a with
 | nil=>intro c h;cases c <;> first | rfl | (cases h;done)
 | cons x r ih =>
  intro c h
  unfold zeq at h
  split at h
  ·cases ‹x :: r=[]›
  ·rename_i e;cases e
   rw [Bool.and_eq_true,beq_iff_eq] at h
   rw [h.1,ih h.2]
  ·rename_i e;cases e
   rw [Bool.and_eq_true,Bool.and_eq_true,beq_iff_eq,decide_eq_true_eq] at h
   rw [h.1,h.2.1,ih h.2.2]
  ·rename_i e;cases e
   rw [Bool.and_eq_true,beq_iff_eq] at h
   rw [h.1,ih h.2]
  ·rename_i e;cases e
   rw [ih h]
  ·rename_i e;cases e
   rw [ih h]
  ·cases h
def zX:List AV->Option (List XV)
 | []=>some []
 | .D (.B x) :: r=>(zX r).map (.d .b x :: ·)
 | .D (.I k x) :: r=>(zX r).map (.d (.i k) x :: ·)
 | .D (.S x) :: r=>(zX r).map (.d .s x :: ·)
 | .fl [] :: r=>(zX r).map (.fln .u :: ·)
 | .D (.C v) :: r=>(zX r).map (.c v :: ·)
 | _=>none
theorem zX_ok [YL]:∀ {a:List AV} {l:List XV},zX a=some l->XV.fcL l=a:=by
  intro a
  induction a with
  | nil=>intro l h;cases h;rfl
  | cons x r ih =>
    intro l h
    unfold zX at h
    split at h
    · rename_i e;cases e
    all_goals first
      | (rename_i e;cases e
         rw [Option.map_eq_some_iff] at h
         obtain ⟨l',h1,rfl⟩:=h
         exact congrArg (_ :: ·) (ih h1))
      | (cases h;done)
def xzero (ty:Option Ty) (zs:List AV):Option (List XV):=match ty with
 | some t=>match zeq zs (zcells t) with
  | true=>some (zl t)
  | false=>none
 | none=>zX zs
theorem xzero_ok [YL] {ty:Option Ty} {zs:List AV} {l:List XV} (h:xzero ty zs=some l):XV.fcL l=zs:=by
 unfold xzero at h
 split at h
 ·split at h
  ·rename_i hz
   cases h
   rw [zl_cells,zeq_ok hz]
  ·cases h
 ·exact zX_ok h

def elT:Option Ty->Option Ty
 | some (.sl t)=>some t
 | _=>none
def xbs (s:XS) (t:Ty):List XV->(List t.T->Option R)->Option R
 | [],K=>K []
 | v :: vs,K=>match xcells v with
  | some cs=>pkC s t cs fun x l=>match l with
   | []=>xbs s t vs fun ys=>K (x :: ys)
   | _=>none
  | none=>none
theorem xbs_ok [YL] {s:XS} {t:Ty} {k:Nat} (hk:t.n=k) {r:R}:∀ {ps:List Operand} {vs:List XV} {K:List t.T->Option R},ps.map s.er.ev=XV.erL vs->xbs s t vs K=some r->∃ xs,K xs=some r/\adataL s.er.lk s.er.ev k ps=some (xs.map t.ds)/\adataRows s.er.ev ps=XV.hrL vs
 | [],[],K,_,h=>⟨[],h,rfl,rfl⟩
 | p :: ps,v :: vs,K,e,h=>by
  have e1:s.er.ev p=v.er:=List.head_eq_of_cons_eq e
  have e2:ps.map s.er.ev=XV.erL vs:=List.tail_eq_of_cons_eq e
  unfold xbs at h
  split at h
  ·rename_i cs hcs
   obtain ⟨x,l1,l2,rfl,h,ec⟩:=pkCG (φ:=fun _=>none) (fun _ _ _=>rfl) h
   split at h
   ·obtain ⟨xs,h,h1,h2⟩:=xbs_ok hk e2 h
    refine ⟨x :: xs,h,?_,?_⟩
    ·unfold adataL
     rw [e1,xcells_ok hcs,h1]
     show (match AV.data (AV.convL s.er.lk (fun _=>none) (XV.fcL (l1 ++ []))),some (xs.map t.ds) with | some e,some es=>if e.length=k then some (e :: es) else none | _,_=>none)=_
     rw [List.append_nil,ec,dataX]
     show (if (t.ds x).length=k then _ else _)=_
     rw [if_pos (by rw [Ty.ds_len];exact hk)];rfl
    ·show AV.rows (s.er.ev p) ++ adataRows s.er.ev ps=_
     rw [e1,hr_er,h2];rfl
   ·cases h
  ·cases h
 | [],_ :: _,_,e,_=>by cases e
 | _ :: _,[],_,e,_=>by cases e
def xbuild (s:XS):List (Nat × Nat × Operand)->List XV->(List XV->Option R)->Option R
 | [],l,K=>K l
 | (o,sz,x) :: r,l,K=>w1 s x fun v=>match xcells v with
  | some cs=>match Nat.beq (szL cs) sz,updL l o cs sz with
   | true,some l'=>xbuild s r l' K
   | _,_=>none
  | none=>none
theorem afill_snoc (o:Nat) (xs:List AV):∀ (r:List (Nat × List AV)) (cs:List AV),afill cs (r ++ [(o,xs)])=(afill cs r).take o ++ xs ++ (afill cs r).drop (o + xs.length)
 | [],cs=>rfl
 | (o',ys) :: r,cs=>by show afill _ (r ++ [(o,xs)])=_;rw [afill_snoc o xs r];rfl
theorem xbuild_ok [YL] {s:XS} {zs:List AV} {K:List XV->Option R} {r:R} {KP:AV->Prop} (hK:∀ l,K l=some r->KP (.agg (XV.fcL l))):∀ {ps:List (Nat × Nat × Operand)} {l:List XV} {acc:List (Nat × List AV)},XV.fcL l=afill zs acc.reverse->(XV.fcL l).length=zs.length->xbuild s ps l K=some r->abuild s.er.ev zs ps acc KP
 | [],l,acc,e,_,h=>by show KP (.agg (afill zs acc.reverse));rw [<- e];exact hK _ h
 | (o,sz,x) :: ps,l,acc,e,el,h=>by
  obtain ⟨h,e1⟩:=w1_ok h
  split at h
  ·rename_i cs hcs
   split at h
   ·rename_i l' hb hu
    obtain ⟨u1,u2⟩:=updL_ok hu
    have hsz:(XV.fcL cs).length=sz:=by rw [szL_ok];exact Nat.eq_of_beq_eq_true hb
    refine ⟨XV.fcL cs,by rw [e1];exact xcells_ok hcs,hsz,by rw [<- el];exact u1,?_⟩
    refine xbuild_ok hK (l:=l') ?_ ?_ h
    ·rw [u2,e,List.reverse_cons,afill_snoc,hsz]
    ·rw [u2,List.length_append,List.length_append,List.length_take,List.length_drop,hsz];omega
   ·cases h
  ·cases h
def unA:XV->XV
 | .agg [.d (.ar n k) x]=>.d (.ar n k) x
 | v=>v
theorem unA_er [YL] (v:XV):(unA v).er=v.er:=by
 unfold unA
 split
 ·rename_i n k x
  show AV.agg (((Ty.ar n k).ds x).map .D)=.agg (((Ty.ar n k).ds x).map .D ++ [])
  rw [List.append_nil]
 ·rfl
def Ty.z:(t:Ty)->t.T
 | .u=>()
 | .b=>false
 | .i _=>0
 | .s=>[]
 | .p a c=>(a.z,c.z)
 | .w a=>a.z
 | .ar n _=>Arr.zero n
 | .sl _=>[]
 | .o _=>[]
def xmks (t:Ty) (k bytes:Nat) (zs:List DV) (K:XV->XB->Option R) (m:Nat):XV->XV->Option R
 | .d (.i _) l,.d (.i _) c=>match Nat.beq t.n k,zeq (zs.map .D) ((t.ds t.z).map .D) with
  | true,true=>gd? (0 <= l) (gd? (l <= c) (gd? (c.toNat <= 9223372036854775807) (gd? (c.toNat * bytes <= 281474976710656) (K (.slw (.O m) t l.toNat) (.row true t (List.replicate l.toNat t.z))))))
  | _,_=>none
 | _,_=>none
theorem xmks_ok [YL] {t:Ty} {k bytes:Nat} {zs:List DV} {K:XV->XB->Option R} {r:R} {m:Nat} {vx vy:XV} (h:xmks t k bytes zs K m vx vy=some r) :
  ∃ (k1 k2:IntKind) (l c:Int) (v:XV) (b:XB),vx.er=.D (.I k1 l)/\vy.er=.D (.I k2 c)/\0 <= l/\l <= c/\c <= 9223372036854775807/\(bytes:Int) * c <= 281474976710656/\K v b=some r/\v.er=.sl (.O m) k 0 l.toNat/\b.er=.row true k (List.replicate l.toNat zs):=by
 unfold xmks at h
 split at h
 ·rename_i k1 l k2 c
  split at h
  ·rename_i hb hz
   have hb:=Nat.eq_of_beq_eq_true hb
   have hz:=mapD_inj (zeq_ok hz)
   obtain ⟨h1,h⟩:=F_gd h
   obtain ⟨h2,h⟩:=F_gd h
   obtain ⟨h3,h⟩:=F_gd h
   obtain ⟨h4,h⟩:=F_gd h
   have h0:(0:Int) <= c:=Int.le_trans (show (0:Int) <= l from h1) h2
   have hc:((Int.toNat c:Nat):Int)=c:=Int.toNat_of_nonneg h0
   have h3:(c:Int) <= 9223372036854775807:=by rw [<- hc];exact Int.ofNat_le.2 h3
   have h4:(bytes:Int) * c <= 281474976710656:=by
    rw [<- hc,Int.mul_comm,<- Int.natCast_mul]
    exact Int.ofNat_le.2 h4
   refine ⟨k1,k2,l,c,_,_,rfl,rfl,h1,h2,h3,h4,h,?_,?_⟩
   ·show AV.sl (.O m) t.n 0 _=_
    rw [hb]
   ·show Blk.row true t.n ((List.replicate _ t.z).map t.ds)=_
    rw [hb,List.map_replicate,<- hz]
  ·cases h
 ·cases h
def xpk (j:Int) (K:XV->Option R):Nat->List XV->Option R
 | _,[]=>none
 | i,v :: vs=>match v with
  | .clo f c=>if? (decide (j=(i:Int))) (K (.clo f c)) (xpk j K (i + 1) vs)
  | _=>none
theorem xpk_ok [YL] {j:Int} {K:XV->Option R} {r:R}:∀ {vs:List XV} {i:Nat},xpk j K i vs=some r->∃ n v,j=((i + n:Nat):Int)/\n < vs.length/\(XV.fcL vs)[n]?=some v.er/\K v=some r
 | [],i,h=>by cases h
 | v :: vs,i,h=>by
  unfold xpk at h
  split at h
  ·rename_i f c
   by_cases hj:j=(i:Int)
   ·rw [decide_eq_true hj] at h
    exact ⟨0,.clo f c,hj,Nat.succ_pos _,rfl,h⟩
   ·rw [decide_eq_false hj] at h
    have h:xpk j K (i + 1) vs=some r:=h
    obtain ⟨n,v,h1,h2,h3,h4⟩:=xpk_ok h
    exact ⟨n + 1,v,by rw [h1];congr 1;omega,Nat.succ_lt_succ h2,h3,h4⟩
  ·cases h
def xixA (m k:Nat) (ag:Option Nat) (j:Int) (K:XV->Option R):XV->Option R
 | .d (.ar n k') y=>match ag with
  | none=>match Nat.beq n m,Nat.beq k 1 with
   | true,true=>get? y.l j fun c=>K (.d (.i k') c)
   | _,_=>none
  | some q=>match Nat.beq (m * k) n,Nat.beq q k with
   | true,true=>gd? (0 <= j) (gd? (j < (m:Int)) (K (.d (.ar q k') (y.part (ixA 0 j.toNat k) q))))
   | _,_=>none
 | .agg cs=>match ag,Nat.beq cs.length m,Nat.beq k 1 with
  | none,true,true=>xpk j K 0 cs
  | _,_,_=>none
 | _=>none
theorem xixA_ok [YL] {m k:Nat} {ag:Option Nat} {j:Int} {K:XV->Option R} {r:R} {v:XV} (h:xixA m k ag j K v=some r) {KP:AV->Prop} (hK:∀ v,K v=some r->KP v.er):∃ cs,v.er=.agg cs/\0 <= j/\j < (m:Int) /\
  match (generalizing:=false) ag with
  | none=>∃ a,cs[j.toNat * k]?=some a/\KP a
  | some q=>j.toNat * k + q <= cs.length/\KP (.agg ((cs.drop (j.toNat * k)).take q)):=by
 unfold xixA at h
 split at h
 ·rename_i n k' y
  cases ag with
  | none =>
   replace h:(match Nat.beq n m,Nat.beq k 1 with
    | true,true=>get? y.l j fun c=>K (.d (.i k') c)
    | _,_=>none)=some r:=h
   split at h
   ·rename_i hb hb2
    have hb:=Nat.eq_of_beq_eq_true hb
    have hb2:=Nat.eq_of_beq_eq_true hb2
    obtain ⟨c,h0,hc,h⟩:=F_get h
    have hlt:=(List.getElem?_eq_some_iff.1 hc).1
    rw [y.len] at hlt
    refine ⟨(y.l.map (DV.I k')).map .D,rfl,h0,by omega,.D (.I k' c),?_,hK (.d (.i k') c) h⟩
    rw [hb2,Nat.mul_one,List.getElem?_map,List.getElem?_map,hc];rfl
   ·cases h
  | some q =>
   replace h:(match Nat.beq (m * k) n,Nat.beq q k with
    | true,true=>gd? (0 <= j) (gd? (j < (m:Int)) (K (.d (.ar q k') (y.part (ixA 0 j.toNat k) q))))
    | _,_=>none)=some r:=h
   split at h
   ·rename_i hb hb2
    have hb:=Nat.eq_of_beq_eq_true hb
    obtain rfl:=Nat.eq_of_beq_eq_true hb2
    obtain ⟨h0,h⟩:=F_gd h
    obtain ⟨h1,h⟩:=F_gd h
    have hle:j.toNat * q + q <= n:=by
     rw [<- hb,<- Nat.succ_mul]
     exact Nat.mul_le_mul_right _ (by omega)
    have:=hK _ h
    rw [ixA_eq,Nat.zero_add] at this
    refine ⟨(y.l.map (DV.I k')).map .D,rfl,h0,h1,by rw [List.length_map,List.length_map,y.len];exact hle,?_⟩
    have e:(XV.d (.ar q k') (y.part (j.toNat * q) q)).er=.agg ((((y.l.map (DV.I k')).map AV.D).drop (j.toNat * q)).take q):=by
     show AV.agg (((y.part (j.toNat * q) q).l.map (DV.I k')).map .D)=_
     rw [Arr.l_part hle,List.map_take,List.map_drop,List.map_take,List.map_drop]
    rw [e] at this
    exact this
   ·cases h
 ·rename_i cs
  split at h
  ·rename_i hb hb2
   have hb:=Nat.eq_of_beq_eq_true hb
   obtain rfl:=Nat.eq_of_beq_eq_true hb2
   obtain ⟨n,v,h1,h2,h3,h4⟩:=xpk_ok h
   refine ⟨XV.fcL cs,rfl,by omega,by omega,v.er,?_,hK v h4⟩
   rw [h1,Int.toNat_natCast,Nat.mul_one,Nat.zero_add]
   exact h3
  ·cases h
 ·cases h
def xslA (s:XS) (m:Nat) (lo hi:Option Operand) (K:XV->Option R):XV->Option R
 | .apt h ix=>match s.lk h with
  | some (.arr _ n _ _)=>match Nat.ble (ix + m) n with
   | true=>xnat s hi m fun hh=>xnat s lo 0 fun l=>gd? (l <= hh) (gd? (hh <= m) (K (.asl h (ixA ix l 1) (hh - l))))
   | false=>none
  | _=>none
 | .rpt h off=>match s.lk h with
  | some (.rb _ t x)=>match arAt (lvs t x) off with
   | some a=>match Nat.beq a.n m with
    | true=>xnat s hi m fun hh=>xnat s lo 0 fun l=>gd? (l <= hh) (gd? (hh <= m) (K (.rsl h off l (hh - l))))
    | false=>none
   | none=>none
  | _=>none
 | _=>none
def zK (k:IntKind):Nat->List AV->Bool
 | 0,[]=>true
 | n + 1,.D (.I k' 0) :: l=>decide (k'=k) && zK k n l
 | _,_=>false
theorem zK_ok {k:IntKind}:∀ {n:Nat} {l:List AV},zK k n l=true->l=(List.replicate n (DV.I k 0)).map .D
 | 0,[],_=>rfl
 | n + 1,.D (.I k' 0) :: l,h=>by
  have h:(decide (k'=k) && zK k n l)=true:=h
  rw [Bool.and_eq_true,decide_eq_true_eq] at h
  rw [h.1,zK_ok h.2];rfl
def xnewR (zs:List AV) (K:XV->XB->Option R) (m:Nat):Ty->Option R
 | .ar n k=>match zK k n zs with
  | true=>K (.apt (.O m) 0) (.arr true n k (Arr.zero n))
  | false=>none
 | t=>match zeq zs ((t.ds t.z).map .D) with
  | true=>K (.rpt (.O m) 0) (.rb true t t.z)
  | false=>none
def xboxR (ty:Option Ty) (K:XV->XB->Option R) (m:Nat):XV->Option R
 | .d (.ar n k) y=>K (.apt (.O m) 0) (.arr true n k y)
 | .agg cs=>match ty with
  | some t=>match pkD t cs with
   | some (x,[])=>K (.rpt (.O m) 0) (.rb true t x)
   | _=>none
  | none=>none
 | _=>none
def xeqa (k:IntKind) (m:Nat) (K:Bool->Option R):XV->XV->Option R
 | .d (.ar n k1) a,.d (.ar n2 k2) b=>match Nat.beq n m,Nat.beq n2 m,decide (k1=k),decide (k2=k) with
  | true,true,true,true=>K (a.l == b.l)
  | _,_,_,_=>none
 | _,_=>none
def xnilc (K:XV->Option R):XV->Option R
 | .ptr h o=>K (.ptr h o)
 | .ept h t ix o=>K (.ept h t ix o)
 | .apt h ix=>K (.apt h ix)
 | .rpt h o=>K (.rpt h o)
 | .rop t x o=>K (.rop t x o)
 | _=>none
theorem intsL_ar {k:IntKind}:∀ (l:List Int),intsL k ((l.map (DV.I k)).map .D)=some l
 | []=>rfl
 | x :: l=>by
  show (if k=k then (intsL k ((l.map (DV.I k)).map .D)).map (x :: ·) else none)=_
  rw [if_pos rfl,intsL_ar l];rfl
theorem xeqa_ok [YL] {k:IntKind} {m:Nat} {K:Bool->Option R} {r:R} {a c:XV} (h:xeqa k m K a c=some r):∃ xs ys p q,a.er=.agg xs/\c.er=.agg ys/\intsL k xs=some p/\intsL k ys=some q/\p.length=m/\q.length=m/\K (p == q)=some r:=by
 unfold xeqa at h
 split at h
 ·rename_i n k1 a n2 k2 b
  split at h
  ·rename_i h1 h2 h3 h4
   have h1:=Nat.eq_of_beq_eq_true h1
   have h2:=Nat.eq_of_beq_eq_true h2
   have h3:=of_decide_eq_true h3
   have h4:=of_decide_eq_true h4
   subst h1 h2 h3 h4
   exact ⟨(a.l.map (DV.I _)).map .D,(b.l.map (DV.I _)).map .D,a.l,b.l,rfl,rfl,intsL_ar _,intsL_ar _,a.len,b.len,h⟩
  ·cases h
 ·cases h
theorem xnilc_ok [YL] {K:XV->Option R} {r:R} {v:XV} (h:xnilc K v=some r) {KP:AV->Prop} (hK:∀ v,K v=some r->KP v.er):match v.er with
  | .ptr h o=>KP (.ptr h o)
  | .eptr h k ix o=>KP (.eptr h k ix o)
  | .rop ds=>KP (.rop ds)
  | _=>False:=by
 unfold xnilc at h
 split at h
 ·exact hK _ h
 ·exact hK _ h
 ·exact hK _ h
 ·exact hK _ h
 ·exact hK _ h
 ·cases h
theorem data_ds:∀ l:List DV,AV.data (l.map .D)=some l
 | []=>rfl
 | x :: l=>by
  show (AV.data (l.map AV.D)).map (x :: ·)=_
  rw [data_ds l];rfl
def andS:List Sh->Bool->Bool->Bool
 | [],p,_=>p
 | _ :: _,p,q=>p && q
def arEq (k:IntKind) (m:Nat):XV->XV->Option Bool
 | .d (.ar n k1) a,.d (.ar n2 k2) e=>match Nat.beq n m,Nat.beq n2 m,decide (k1=k),decide (k2=k) with
  | true,true,true,true=>some (a.l == e.l)
  | _,_,_,_=>none
 | _,_=>none
theorem arEq_ok [YL] {k:IntKind} {m:Nat} {x y:XV} {b:Bool} (h:arEq k m x y=some b):∃ p q:List Int,x.fc=(p.map (DV.I k)).map .D/\y.fc=(q.map (DV.I k)).map .D/\p.length=m/\q.length=m/\b=(p == q):=by
 unfold arEq at h
 split at h
 ·rename_i n k1 a n2 k2 e
  split at h
  ·rename_i h1 h2 h3 h4
   obtain rfl:=Nat.eq_of_beq_eq_true h1
   obtain rfl:=Nat.eq_of_beq_eq_true h2
   obtain rfl:=of_decide_eq_true h3
   obtain rfl:=of_decide_eq_true h4
   cases h
   exact ⟨a.l,e.l,rfl,rfl,a.len,e.len,rfl⟩
  ·cases h
 ·cases h
def xeqS:List Sh->List XV->List XV->Option Bool
 | [],[],[]=>some true
 | .s kd :: r,x :: xs,y :: ys=>match xsame1 kd x y,xeqS r xs ys with
  | some p,some q=>some (andS r p q)
  | _,_=>none
 | .a k m :: r,x :: xs,y :: ys=>match arEq k m x y,xeqS r xs ys with
  | some p,some q=>some (andS r p q)
  | _,_=>none
 | _,_,_=>none
theorem xeqS_nil {xs ys:List XV} {q:Bool} (h:xeqS [] xs ys=some q):q=true:=by
 cases xs <;> cases ys <;> first | (cases h;rfl;done) | (cases h;done)
theorem andS_eq {r:List Sh} {xs ys:List XV} {p q:Bool} (h:xeqS r xs ys=some q):andS r p q=(p && q):=by
 cases r with
 | nil=>rw [xeqS_nil h,Bool.and_true];rfl
 | cons _ _=>rfl
theorem xsame1_fc [YL] {kd:Nat} {x y:XV} {p:Bool} (hp:xsame1 kd x y=some p):∃ d1 d2,x.fc=[.D d1]/\y.fc=[.D d2]/\DV.same kd d1 d2=some p:=by
 unfold xsame1 at hp
 split at hp
 ·split at hp
  ·rename_i hb
   obtain rfl:=Nat.eq_of_beq_eq_true hb
   exact ⟨_,_,rfl,rfl,hp⟩
  ·cases hp
 ·exact ⟨_,_,rfl,rfl,hp⟩
 ·split at hp
  ·rename_i hb
   obtain rfl:=Nat.eq_of_beq_eq_true hb
   exact ⟨_,_,rfl,rfl,hp⟩
  ·cases hp
 ·cases hp
theorem xeqS_ok [YL]:∀ {sh:List Sh} {xs ys:List XV} {b:Bool},xeqS sh xs ys=some b->eqSh sh (XV.fcL xs) (XV.fcL ys)=some b
 | [],xs,ys,b,h=>by
  cases xs <;> cases ys <;> first | (cases h;rfl;done) | (cases h;done)
 | .s kd :: r,x :: xs,y :: ys,b,h=>by
  unfold xeqS at h
  split at h
  ·rename_i p q h1 h2
   cases h
   obtain ⟨d1,d2,e1,e2,e3⟩:=xsame1_fc h1
   have ih:=xeqS_ok h2
   show eqSh (.s kd :: r) (x.fc ++ XV.fcL xs) (y.fc ++ XV.fcL ys)=_
   rw [e1,e2,andS_eq h2]
   show (match DV.same kd d1 d2,eqSh r (XV.fcL xs) (XV.fcL ys) with | some p,some q=>some (p && q) | _,_=>none)=_
   rw [e3,ih]
  ·cases h
 | .a k m :: r,x :: xs,y :: ys,b,h=>by
  unfold xeqS at h
  split at h
  ·rename_i p q h1 h2
   cases h
   obtain ⟨p1,q1,e1,e2,l1,l2,rfl⟩:=arEq_ok h1
   have ih:=xeqS_ok h2
   show eqSh (.a k m :: r) (x.fc ++ XV.fcL xs) (y.fc ++ XV.fcL ys)=_
   rw [e1,e2,andS_eq h2]
   have hl:∀ (p:List Int),p.length=m->((p.map (DV.I k)).map AV.D).length=m:=fun p e=>by rw [List.length_map,List.length_map,e]
   have tk:∀ {a c:List AV},a.length=m->(a ++ c).take m=a:=fun e=>by rw [<- e,List.take_left]
   have dp:∀ {a c:List AV},a.length=m->(a ++ c).drop m=c:=fun e=>by rw [<- e,List.drop_left]
   unfold eqSh
   rw [tk (hl _ l1),tk (hl _ l2),dp (hl _ l1),dp (hl _ l2),intsL_ar,intsL_ar,ih]
   simp only
   rw [if_pos ⟨l1,l2⟩]
  ·cases h
 | .s _ :: _,[],ys,b,h=>by cases h
 | .s _ :: _,_ :: _,[],b,h=>by cases h
 | .a _ _ :: _,[],ys,b,h=>by cases h
 | .a _ _ :: _,_ :: _,[],b,h=>by cases h

section
variable {α β:Type} [DecidableEq α]
def mGet:List (α × β)->α->Option β
 | [],_=>none
 | e :: es,y=>if e.1=y then some e.2 else mGet es y
def mSet:List (α × β)->α->β->List (α × β)
 | [],y,v=>[(y,v)]
 | e :: es,y,v=>if e.1=y then (y,v) :: es else e :: mSet es y v
def mDel:List (α × β)->α->List (α × β)
 | [],_=>[]
 | e :: es,y=>if e.1=y then es else e :: mDel es y
end
def valX (t:Ty) (x:t.T):XV:=match t,x with
 | .o t,x=>.d (.sl t) x
 | t,x=>xvOf t x
theorem keqL_app:∀ {a b c d:List AV} {p q:Bool},keqL a b=some p->keqL c d=some q->keqL (a ++ c) (b ++ d)=some (p && q)
 | a,b,c,d,p,q,h,h2=>by
  unfold keqL at h
  split at h
  ·cases h;simpa using h2
  ·rename_i k n xs k' n' ys
   rw [Option.ite_none_right_eq_some] at h
   obtain ⟨e,h⟩:=h
   split at h
   ·rename_i b0 hb
    cases h
    show (if k=k' then match keqL (xs ++ c) (ys ++ d) with | some b=>some (n == n' && b) | none=>none else none)=_
    rw [if_pos e,keqL_app hb h2,Bool.and_assoc]
   ·cases h
  ·cases h
theorem keqL_ar (k:IntKind):∀ (l l':List Int),l.length=l'.length->keqL ((l.map (DV.I k)).map .D) ((l'.map (DV.I k)).map .D)=some (decide (l'=l))
 | [],[],_=>rfl
 | x :: l,y :: l',h=>by
  show (if k=k then match keqL ((l.map (DV.I k)).map .D) ((l'.map (DV.I k)).map .D) with | some b=>some (x == y && b) | none=>none else none)=_
  rw [if_pos rfl,keqL_ar k l l' (by simpa using h)]
  simp only [Option.some.injEq]
  rw [Bool.eq_iff_iff,Bool.and_eq_true,beq_iff_eq,decide_eq_true_eq,decide_eq_true_eq]
  exact ⟨fun ⟨a,b⟩=>by rw [a,b],fun e=>by cases e;exact ⟨rfl,rfl⟩⟩
 | [],_ :: _,h=>by cases h
 | _ :: _,[],h=>by cases h
theorem keqL_T:∀ {t:Ty},allI t=true->∀ x y:t.T,keqL ((t.ds x).map .D) ((t.ds y).map .D)=some (decide (y=x))
 | .i k,_,x,y=>by
  show (if k=k then some (((x:Int) == y) && true) else none)=_
  rw [if_pos rfl,Bool.and_true]
  congr 1
  rw [Bool.eq_iff_iff,beq_iff_eq,decide_eq_true_eq]
  exact ⟨Eq.symm,Eq.symm⟩
 | .p a b,h,x,y=>by
  have h:(allI a && allI b)=true:=h
  rw [Bool.and_eq_true] at h
  show keqL ((a.ds x.1 ++ b.ds x.2).map .D) ((a.ds y.1 ++ b.ds y.2).map .D)=_
  rw [List.map_append,List.map_append,keqL_app (keqL_T h.1 x.1 y.1) (keqL_T h.2 x.2 y.2)]
  congr 1
  rw [Bool.eq_iff_iff,Bool.and_eq_true,decide_eq_true_eq,decide_eq_true_eq,decide_eq_true_eq]
  exact ⟨fun ⟨a,b⟩=>Prod.ext a b,fun e=>by rw [e];exact ⟨rfl,rfl⟩⟩
 | .ar n k,_,x,y=>by
  show keqL ((x.l.map (DV.I k)).map .D) ((y.l.map (DV.I k)).map .D)=_
  rw [keqL_ar k x.l y.l (x.len.trans y.len.symm)]
  congr 1
  rw [Bool.eq_iff_iff,decide_eq_true_eq,decide_eq_true_eq]
  exact ⟨fun e=>Arr.ext e,fun e=>by rw [e]⟩
 | .u,h,_,_ | .b,h,_,_ | .s,h,_,_ | .w _,h,_,_ | .sl _,h,_,_ | .o _,h,_,_=>by cases h
theorem keqK_ok {K:Ty} (h:isKey K=true) (x y:K.T):(avOf K x).keq (avOf K y)=some (decide (y=x)):=by
 cases K <;> first | (cases h;done) | skip
 ·rename_i k
  show (if k=k then some ((x:Int) == y) else none)=_
  rw [if_pos rfl]
  congr 1
  rw [Bool.eq_iff_iff,beq_iff_eq,decide_eq_true_eq]
  exact ⟨Eq.symm,Eq.symm⟩
 ·show some ((x:List UInt8) == y)=_
  congr 1
  rw [Bool.eq_iff_iff,beq_iff_eq,decide_eq_true_eq]
  exact ⟨Eq.symm,Eq.symm⟩
 ·exact keqL_T h x y
 ·exact keqL_T (t:=.ar _ _) rfl x y
theorem mfind_ents {wr:Bool} {K V:Ty} (hk:isKey K=true) (y:K.T):∀ (es:List (K.T × V.T)) (hole:Option K.T),∃ r,mfind (avOf K y) (entsX wr K V es hole)=some r /\
  match mGet es y with
  | none=>r=none
  | some v=>∃ j,r=some (j,if hole=some y then .v (hvOf wr V v) else mvOf wr V v)
 | [],hole=>⟨none,rfl,rfl⟩
 | e :: es,hole=>by
  have key:∀ (mv:MV) (rest:List (AV × MV)) (r0:Option (Nat × MV)),mfind (avOf K y) rest=some r0->mfind (avOf K y) ((avOf K e.1,mv) :: rest)=some (if e.1=y then some (0,mv) else match r0 with | some (j,v)=>some (j + 1,v) | none=>none):=fun mv rest r0 h0=>by
   unfold mfind
   rw [keqK_ok hk]
   by_cases he:e.1=y
   ·rw [decide_eq_true he,if_pos he]
   ·rw [decide_eq_false he,if_neg he]
    simp only [h0]
    cases r0 with
    | none=>rfl
    | some p=>rfl
  have hg:mGet (e :: es) y=if e.1=y then some e.2 else mGet es y:=rfl
  cases hole with
  | none =>
   obtain ⟨r0,h0,h1⟩:=mfind_ents hk y es none
   refine ⟨_,key (mvOf wr V e.2) _ r0 h0,?_⟩
   rw [hg]
   by_cases he:e.1=y
   ·rw [if_pos he,if_pos he];exact ⟨0,by rw [if_neg (fun h=>by cases h)]⟩
   ·rw [if_neg he,if_neg he]
    cases hm:mGet es y with
    | none=>rw [hm] at h1;simp only at h1;subst h1;rfl
    | some v=>rw [hm] at h1;obtain ⟨j,rfl⟩:=h1;exact ⟨j + 1,rfl⟩
  | some z =>
   by_cases hz:e.1=z
   ·obtain ⟨r0,h0,h1⟩:=mfind_ents hk y es none
    refine ⟨_,by unfold entsX;rw [if_pos hz];exact key (.v (hvOf wr V e.2)) _ r0 h0,?_⟩
    rw [hg]
    by_cases he:e.1=y
    ·rw [if_pos he,if_pos he];exact ⟨0,by rw [if_pos (by rw [<- hz,he])]⟩
    ·rw [if_neg he,if_neg he]
     cases hm:mGet es y with
     | none=>rw [hm] at h1;simp only at h1;subst h1;rfl
     | some v =>
      rw [hm] at h1;obtain ⟨j,rfl⟩:=h1
      exact ⟨j + 1,by rw [if_neg (fun h=>by cases h),if_neg (fun h=>he (by cases h;exact hz))]⟩
   ·obtain ⟨r0,h0,h1⟩:=mfind_ents hk y es (some z)
    refine ⟨_,by unfold entsX;rw [if_neg hz];exact key (mvOf wr V e.2) _ r0 h0,?_⟩
    rw [hg]
    by_cases he:e.1=y
    ·rw [if_pos he,if_pos he];exact ⟨0,by rw [if_neg (fun h=>hz (by cases h;exact he))]⟩
    ·rw [if_neg he,if_neg he]
     cases hm:mGet es y with
     | none=>rw [hm] at h1;simp only at h1;subst h1;rfl
     | some v=>rw [hm] at h1;obtain ⟨j,rfl⟩:=h1;exact ⟨j + 1,rfl⟩
def zOk (V:Ty):AV->Bool
 | .agg cs=>!(isLeaf V) && zeq cs ((V.ds V.z).map .D)
 | a=>isLeaf V && zeq [a] [avOf V V.z]
def kdB (a b:KD):Bool:=match a,b with
 | .i k,.i k'=>decide (k=k')
 | .s,.s=>true
 | .a l,.a l'=>decide (l=l')
 | _,_=>false
def asKey (K:Ty) (v:XV):Option K.T:=match v with
 | .d t x=>t.cst K x
 | .agg cs=>match isLeaf K with
  | true=>none
  | false=>match pkD K cs with
   | some (x,[])=>some x
   | _=>none
 | _=>none
def xmget (s:XS) (kd:KD) (z:AV) (ok:Bool) (K:XV->Option R):XV->XV->Option R
 | .mref h,vy=>match s.lk h with
  | some (.mp false K0 V es _ _)=>match isKey K0 && kdB K0.kd kd && zOk V z,asKey K0 vy with
   | true,some y=>match ok with
    | true=>K (.tup [valX V ((mGet es y).getD V.z),.d .b (mGet es y).isSome])
    | false=>K (valX V ((mGet es y).getD V.z))
   | _,_=>none
  | _=>none
 | _,_=>none
def xent (s:XS) (K:XV->Option R):XV->Option R
 | .itr h hi=>match s.lk h,s.lk hi with
  | some (.mp false K0 V es _ (some (hi',some cur,_))),some _=>match isKey K0 && hi.eqb hi' with
   | true=>bd? (mGet es cur) fun v=>K (.tup [xvOf K0 cur,valX V v])
   | false=>none
  | _,_=>none
 | _=>none
def xisp (neg:Bool) (K:XV->Option R):XV->Option R
 | .ptr _ _=>K (.d .b neg)
 | .c (.pointer none)=>K (.d .b (!neg))
 | _=>none
theorem xisp_ok [YL] {neg:Bool} {K:XV->Option R} {r:R} {v:XV} (h:xisp neg K v=some r) {KP:AV->Prop} (hK:∀ v,K v=some r->KP v.er):match v.er with
  | .ptr _ _=>KP (.D (.B neg))
  | .D (.C (.pointer none))=>KP (.D (.B (!neg)))
  | _=>False:=by
 unfold xisp at h
 split at h
 ·exact hK _ h
 ·exact hK _ h
 ·cases h
def packI (k:IntKind):List XV->Option (List Int)
 | []=>some []
 | .d (.i k') x :: l=>match decide (k'=k),packI k l with
  | true,some r=>some (x :: r)
  | _,_=>none
 | _=>none
theorem packI_ok [YL] {k:IntKind}:∀ {l:List XV} {xs:List Int},packI k l=some xs->XV.fcL l=(xs.map (DV.I k)).map .D
 | [],xs,h=>by cases h;rfl
 | v :: l,xs,h=>by
  unfold packI at h
  split at h
  ·rename_i e;cases e
  ·rename_i k' x l' e
   cases e
   split at h
   ·rename_i r h1 h2
    cases h
    have h1:=of_decide_eq_true h1
    subst h1
    show [AV.D (.I _ x)] ++ XV.fcL l=_
    rw [packI_ok h2];rfl
   ·cases h
  ·cases h
def xzB (ty:Option Ty) (zs:List AV) (ps:List (Nat × Nat × Operand)):Option (List XV):=match ty,ps with
 | some (.ar _ _),_ :: _=>zX zs
 | _,_=>xzero ty zs
theorem xzB_ok [YL] {ty:Option Ty} {zs:List AV} {ps:List (Nat × Nat × Operand)} {l:List XV} (h:xzB ty zs ps=some l):XV.fcL l=zs:=by
 unfold xzB at h
 split at h
 ·exact zX_ok h
 ·exact xzero_ok h
def finB (ty:Option Ty) (K:XV->Option R) (l:List XV):Option R:=match ty with
 | some (.ar n k)=>match packI k l with
  | some xs=>match Nat.beq xs.length n with
   | true=>K (.d (.ar n k) (Arr.from xs n))
   | false=>K (.agg l)
  | none=>K (.agg l)
 | _=>K (.agg l)
theorem finB_ok [YL] {ty:Option Ty} {K:XV->Option R} {l:List XV} {r:R} (h:finB ty K l=some r) {KP:AV->Prop} (hK:∀ v,K v=some r->KP v.er):KP (.agg (XV.fcL l)):=by
 unfold finB at h
 split at h
 ·rename_i n k
  split at h
  ·rename_i xs hx
   split at h
   ·rename_i hb
    have:=hK _ h
    have e:(XV.d (.ar n k) (Arr.from xs n)).er=.agg (XV.fcL l):=by
     show AV.agg (((Arr.from xs n).l.map (DV.I k)).map .D)=_
     rw [packI_ok hx,Arr.l_from (Nat.le_of_eq (Nat.eq_of_beq_eq_true hb).symm),List.take_of_length_le (Nat.le_of_eq (Nat.eq_of_beq_eq_true hb))]
    rw [e] at this;exact this
   ·exact hK _ h
  ·exact hK _ h
 ·exact hK _ h
def xp (T:List Sig) (s:XS) (ty:Option Ty) (op:ROp) (K:XV->List XB->List Hd->Option R):Option R :=
 match op with
 | .mv x=>w1 s x fun v=>K v [] []
 | .pick c a b=>w1 s c fun vc=>w1 s a fun va=>w1 s b fun vb=>match vc with
  | .d .b x=>xpick x (fun v=>K v [] []) va vb
  | _=>none
 | .new zs=>match xzero ty zs with
  | some l=>K (.ptr (.O s.own.length) 0) [.box l] []
  | none=>none
 | .build zs ps=>match xzB ty zs ps with
  | some l=>xbuild s ps l fun l=>finB ty (fun v=>K v [] []) l
  | none=>none
 | .bslice k ps=>match ps with
  | []=>K (.fln ((elT ty).getD .u)) [] []
  | ps=>match elT ty with
   | some t=>match Nat.beq t.n k with
    | true=>wL s ps fun vs=>xbs s t vs fun xs=>K (.slw (.O s.own.length) t ps.length) [.row true t xs] (xfz s (XV.hrL vs))
    | false=>none
   | none=>none
 | .bsF k ps=>match ps with
  | []=>K (.fln ((elT ty).getD .u)) [] []
  | ps=>match elT ty with
   | some t=>match Nat.beq t.n k with
    | true=>wL s ps fun vs=>xbs ⟨s.env,[],[]⟩ t vs fun xs=>K (.fl t xs) [] []
    | false=>none
   | none=>none
 | .box x=>w1 s x fun v=>match xcells v with
  | some cs=>K (.ptr (.O s.own.length) 0) [.box cs] []
  | none=>none
 | .load ag x=>w1 s x (xload s ag fun a=>K a [] [])
 | .bin op x y=>w1 s x fun a=>w1 s y fun c=>xbin op (fun a=>K a [] []) a c
 | .eqs neg kds x y=>w1 s x fun a=>w1 s y fun c=>match a,c with
  | .agg xs,.agg ys=>match xsame kds xs ys with
   | some q=>K (.d .b (match neg with
    | true=>!q
    | false=>q)) [] []
   | none=>none
  | _,_=>none
 | .beq neg x y=>w1 s x fun a=>w1 s y fun c=>match a,c with
  | .d .b p,.d .b q=>K (.d .b (match neg with
   | true=>!(p == q)
   | false=>p == q)) [] []
  | _,_=>none
 | .un op x=>w1 s x (xun op fun a=>K a [] [])
 | .faddr off x=>w1 s x fun v=>match xlive s v with
  | true=>xfaddr off (fun a=>K a [] []) v
  | false=>none
 | .field off ag x=>w1 s x fun v=>match v with
  | .agg cs=>xcut ag cs off fun a=>K a [] []
  | _=>none
 | .iaddr k x i=>w1 s x fun v=>w1 s i fun vi=>match xlive s v with
  | true=>match vi with
   | .d (.i _) j=>xiaddr k j (fun a=>K a [] []) v
   | _=>none
  | false=>none
 | .ixs x i=>w1 s x fun v=>w1 s i fun vi=>match v,vi with
  | .d .s t,.d (.i _) j=>get? t j fun c=>K (.d (.i .u8) c.toNat) [] []
  | _,_=>none
 | .sls x lo hi=>w1 s x fun v=>match v with
  | .d .s t=>xnat s hi t.length fun h=>xnat s lo 0 fun l=>gd? (l <= h) (gd? (h <= t.length) (K (.d .s ((t.drop l).take (h - l))) [] []))
  | _=>none
 | .sll k x lo hi mx=>w1 s x fun v=>match xlive s v with
  | true=>xslice s k lo hi mx (fun a=>K a [] []) v
  | false=>none
 | .ext x i=>w1 s x fun v=>match v with
  | .tup vs=>match nth vs i with
   | some a=>K a [] []
   | none=>none
  | _=>none
 | .call f args=>w1 s f fun vf=>wL s args fun vs=>xcall T s vs K vf
 | .len str x=>w1 s x fun v=>match xlive s v with
  | true=>match xlen str v with
   | some m=>K (.d (.i .i64) (m:Int)) [] []
   | none=>none
  | false=>none
 | .mm isMax x y=>w1 s x fun a=>w1 s y fun c=>match a,c with
  | .d (.i k) p,.d (.i k') q=>if k=k' then K (.d (.i k) (match isMax with
   | true=>max p q
   | false=>min p q)) [] [] else none
  | _,_=>none
 | .mkf f caps=>wL s caps fun vs=>K (.clo f vs) [] []
 | .cvI k x=>w1 s x fun v=>match v with
  | .d (.i _) j=>K (.d (.i k) (k.wrap j)) [] []
  | _=>none
 | .cvS x=>w1 s x fun v=>asLeaf s (.sl (.i .u8)) v fun xs=>K (.d .s (bytesI xs)) [] []
 | .cvB x=>w1 s x fun v=>match v with
  | .d .s t=>K (.d (.sl (.i .u8)) (intsS t)) [] []
  | _=>none
 | .iaddrA m k x i=>w1 s x fun v=>w1 s i fun vi=>match xlive s v with
  | true=>match vi with
   | .d (.i _) j=>xiaA m k j (fun a=>K a [] []) v
   | _=>none
  | false=>none
 | .idxA m k ag x i=>w1 s x fun v=>w1 s i fun vi=>match vi with
  | .d (.i _) j=>xixA m k ag j (fun a=>K a [] []) (unA v)
  | _=>none
 | .slsA m x lo hi=>w1 s x fun v=>xslA s m lo hi (fun a=>K a [] []) v
 | .newR zs=>match ty with
  | some t=>xnewR zs (fun v b=>K v [b] []) s.own.length t
  | none=>none
 | .boxR x=>w1 s x fun v=>xboxR ty (fun v b=>K v [b] []) s.own.length v
 | .eqa neg k m x y=>w1 s x fun a=>w1 s y fun c=>xeqa k m (fun q=>K (.d (.b) (match neg with
  | true=>!q
  | false=>q)) [] []) (unA a) (unA c)
 | .isnil neg x=>w1 s x fun v=>match xlive s v with
  | true=>match xlen false v with
   | some m=>if? (decide (0 < m)) (K (.d .b neg) [] []) (K .ab [] [])
   | none=>none
  | false=>none
 | .nilc x=>w1 s x fun v=>match xlive s v with
  | true=>xnilc (fun a=>K a [] []) v
  | false=>none
 | .isp neg x=>w1 s x fun v=>match xlive s v with
  | true=>xisp neg (fun a=>K a [] []) v
  | false=>none
 | .eqg neg sh x y=>w1 s x fun a=>w1 s y fun c=>match a,c with
  | .agg xs,.agg ys=>match xeqS sh xs ys with
   | some q=>K (.d .b (match neg with
    | true=>!q
    | false=>q)) [] []
   | none=>none
  | _,_=>none
 | .newB T=>K (.mref (.O s.own.length)) [.sb T false []] []
 | .mkm kd=>none
 | .mkmW kd=>none
 | .mget kd z _ ok x y=>none
 | .mlen x=>none
 | .ent x=>none
 | .loadD ag x=>w1 s x fun v=>match v with
  | .rop t x off=>xrop ag off (fun a=>K a [] []) t x
  | _=>none
 | .sllD k x lo hi mx=>w1 s x fun v=>match v with
  | .d (.sl t) xs=>xslice s k lo hi mx (fun a=>K a [] []) (.d (.sl t) xs)
  | .fl t xs=>xslice s k lo hi mx (fun a=>K a [] []) (.fl t xs)
  | _=>none
 | .iaddrD k x i=>w1 s x fun v=>w1 s i fun vi=>match vi,v with
  | .d (.i _) j,.d (.sl t) xs=>xiaddr k j (fun a=>K a [] []) (.d (.sl t) xs)
  | .d (.i _) j,.fl t xs=>xiaddr k j (fun a=>K a [] []) (.fl t xs)
  | _,_=>none
 | .mks k bytes zs x y=>w1 s x fun vx=>w1 s y fun vy=>match elT ty with
  | some t=>xmks t k bytes zs (fun v b=>K v [b] []) s.own.length vx vy
  | none=>none
 | .arrP m x=>w1 s x fun v=>match v with
  | .asl h off len=>match s.lk h with
   | some (.arr _ _ _ _)=>gd? (m <= len) (gd? (0 < len) (K (.apt h off) [] []))
   | _=>none
  | .rsl h off l len=>match s.lk h with
   | some (.rb _ _ _)=>gd? (m <= len) (gd? (0 < len) (K (.rpt h (off + l)) [] []))
   | _=>none
  | _=>none
 | .capK x=>w1 s x fun v=>match v with
  | .fl _ xs=>K (.d (.i .i64) (xs.length:Int)) [] []
  | .fln _=>K (.d (.i .i64) 0) [] []
  | _=>none
 | .appZ k bytes zs x y=>w1 s x fun vx=>w1 s y fun vy=>match vx,vy,elT ty with
  | .fln _,.d (.i _) j,some t=>match Nat.beq t.n k,zeq (zs.map .D) ((t.ds t.z).map .D) with
   | true,true=>gd? (0 < j) (gd? ((0 + j.toNat) * bytes <= 140737488355328) (K (.slw (.O s.own.length) t j.toNat) [.row true t (List.replicate j.toNat t.z)] []))
   | _,_=>none
  | _,_,_=>none
 | .mkI t x=>w1 s x fun v=>match v with
  | .agg []=>K (.c (.iface t (.agg #[]))) [] []
  | _=>none
 | .isn neg x=>w1 s x fun v=>match v with
  | .c .nilIface=>K (.d .b (!neg)) [] []
  | .c (.iface _ _)=>K (.d .b neg) [] []
  | _=>none
 | .tas t x=>w1 s x fun v=>match v with
  | .c (.iface t' (.agg a))=>match Nat.beq t' t,a.isEmpty with
   | true,true=>K (.tup [.agg [],.d .b true]) [] []
   | _,_=>none
  | _=>none
 | _=>none
theorem xload_rop {lk:Look} {ag:Option Nat} {KP:AV->Prop} {ds:List DV} (h:aload lk ag KP (.rop ds)):aload (fun _=>none) ag KP (.rop ds):=h
theorem xp_ok [YL] {P:Program} {T:List Sig} (hT:TblOk P T) {s:XS} {ty:Option Ty} {op:ROp} {K:XV->List XB->List Hd->Option R} {r:R} (h:xp T s ty op K=some r) {KP:AV->List Blk->List Hd->Prop}
  (hK:∀ v nbs fz,K v nbs fz=some r->KP v.er (nbs.map XB.er) fz):pstep P s.er.lk s.er.nx s.er.ev op KP:=by
 unfold xp at h
 split at h
 ·obtain ⟨h,e⟩:=w1_ok h
  show KP (s.er.ev _) [] []
  rw [e];exact hK _ _ _ h
 ·obtain ⟨h,e1⟩:=w1_ok h
  obtain ⟨h,e2⟩:=w1_ok h
  obtain ⟨h,e3⟩:=w1_ok h
  split at h
  ·rename_i x hx
   refine ⟨x,by rw [e1,hx];rfl,?_⟩
   rw [e2,e3]
   exact xpick_ok (KP:=fun a=>KP a [] []) h fun v h=>hK _ _ _ h
  ·cases h
 ·split at h
  ·rename_i l hl
   have:=hK _ _ _ h
   show KP (.ptr (.O s.own.length) 0) [.box _] []
   rw [<- xzero_ok hl];exact this
  ·cases h
 ·split at h
  ·rename_i l hl
   have e:=xzB_ok hl
   exact xbuild_ok (KP:=fun a=>KP a [] []) (fun l h=>finB_ok (KP:=fun a=>KP a [] []) h fun v h=>hK v [] [] h) (acc:=[]) e (by rw [e]) h
  ·cases h
 ·rename_i k ps
  split at h
  ·exact hK _ _ _ h
  ·rename_i ps' hne
   split at h
   ·rename_i t _
    split at h
    ·rename_i hb
     have hk:=Nat.eq_of_beq_eq_true hb
     obtain ⟨vs,h,e⟩:=wL_ok h
     obtain ⟨xs,h,h1,h2⟩:=xbs_ok hk e h
     show if ps=[] then _ else _
     rw [if_neg hne]
     refine ⟨_,h1,?_⟩
     rw [h2,xfz_ok]
     have:=hK _ _ _ h
     have e2:([XB.row true t xs].map XB.er)=[Blk.row true k (xs.map t.ds)]:=by
      show [Blk.row true t.n (xs.map t.ds)]=_
      rw [hk]
     have e3:(XV.slw (.O s.own.length) t ps.length).er=.sl (.O s.own.length) k 0 ps.length:=by
      show AV.sl (.O s.own.length) t.n 0 ps.length=_
      rw [hk]
     rw [e2,e3] at this
     exact this
    ·cases h
   ·cases h
 ·rename_i k ps
  split at h
  ·exact .inl ⟨rfl,hK _ _ _ h⟩
  ·rename_i ps' hne
   split at h
   ·rename_i t _
    split at h
    ·rename_i hb
     have hk:=Nat.eq_of_beq_eq_true hb
     obtain ⟨vs,h,e⟩:=wL_ok h
     have e':ps.map (XS.er ⟨s.env,[],[]⟩).ev=XV.erL vs:=by
      rw [<- e]
      apply List.map_congr_left
      intro x _
      cases x <;> rfl
     obtain ⟨xs,h,h1,_⟩:=xbs_ok hk e' h
     refine .inr ⟨hne,xs.map t.ds,?_,hK _ _ _ h⟩
     have e1:(XS.er ⟨s.env,[],[]⟩).lk=fun _=>none:=by funext x;cases x <;> rfl
     have e2:(XS.er ⟨s.env,[],[]⟩).ev=s.er.ev:=by funext x;cases x <;> rfl
     rw [e1,e2] at h1
     exact h1
    ·cases h
   ·cases h
 ·obtain ⟨h,e1⟩:=w1_ok h
  split at h
  ·rename_i cs hcs
   exact ⟨_,by rw [e1];exact xcells_ok hcs,hK _ _ _ h⟩
  ·cases h
 ·obtain ⟨h,e1⟩:=w1_ok h
  show aload s.er.lk _ (fun a=>KP a [] []) (s.er.ev _)
  rw [e1]
  exact xload_ok h fun v h=>hK _ _ _ h
 ·obtain ⟨h,e1⟩:=w1_ok h
  obtain ⟨h,e2⟩:=w1_ok h
  show abin _ (fun a=>KP a [] []) (s.er.ev _) (s.er.ev _)
  rw [e1,e2]
  exact xbin_ok h fun v h=>hK _ _ _ h
 ·obtain ⟨h,e1⟩:=w1_ok h
  obtain ⟨h,e2⟩:=w1_ok h
  split at h
  ·rename_i xs ys hx hy
   split at h
   ·rename_i q hq
    refine ⟨XV.fcL xs,XV.fcL ys,q,by rw [e1,hx];rfl,by rw [e2,hy];rfl,xsame_ok hq,?_⟩
    have:=hK _ _ _ h
    split at this <;> exact this
   ·cases h
  ·cases h
 ·obtain ⟨h,e1⟩:=w1_ok h
  obtain ⟨h,e2⟩:=w1_ok h
  split at h
  ·rename_i p q hx hy
   refine ⟨p,q,by rw [e1,hx];rfl,by rw [e2,hy];rfl,?_⟩
   have:=hK _ _ _ h
   split at this <;> exact this
  ·cases h
 ·obtain ⟨h,e1⟩:=w1_ok h
  show aun _ (fun a=>KP a [] []) (s.er.ev _)
  rw [e1]
  exact xun_ok h fun v h=>hK _ _ _ h
 ·obtain ⟨h,e1⟩:=w1_ok h
  split at h
  ·rename_i hl
   show AV.live s.er.lk (s.er.ev _)=true/\_
   rw [e1]
   exact ⟨xlive_ok hl,xfaddr_ok h (KP:=fun a=>KP a [] []) fun v h=>hK _ _ _ h⟩
  ·cases h
 ·obtain ⟨h,e1⟩:=w1_ok h
  split at h
  ·rename_i cs hx
   refine ⟨XV.fcL cs,by rw [e1,hx];rfl,?_⟩
   obtain ⟨v,h1,h2⟩:=xcut_ok h
   split
   ·exact ⟨_,h2,hK _ _ _ h1⟩
   ·exact ⟨h2.1,by rw [<- h2.2];exact hK _ _ _ h1⟩
  ·cases h
 ·obtain ⟨h,e1⟩:=w1_ok h
  obtain ⟨h,e2⟩:=w1_ok h
  split at h
  ·rename_i hl
   split at h
   ·rename_i k j hj
    obtain ⟨h1,h2⟩:=xiaddr_ok h (KP:=fun a=>KP a [] []) fun v h=>hK _ _ _ h
    show AV.live s.er.lk (s.er.ev _)=true/\_
    rw [e1]
    exact ⟨xlive_ok hl,k,j,by rw [e2,hj];rfl,h1,h2⟩
   ·cases h
  ·cases h
 ·obtain ⟨h,e1⟩:=w1_ok h
  obtain ⟨h,e2⟩:=w1_ok h
  split at h
  ·rename_i t k j hx hj
   obtain ⟨c,h0,hc,h⟩:=F_get h
   exact ⟨t,k,j,c,by rw [e1,hx];rfl,by rw [e2,hj];rfl,h0,hc,hK _ _ _ h⟩
  ·cases h
 ·obtain ⟨h,e1⟩:=w1_ok h
  split at h
  ·rename_i t hx
   refine ⟨t,by rw [e1,hx];rfl,xnat_ok h fun hh h=>xnat_ok h fun l h=>?_⟩
   obtain ⟨h1,h⟩:=F_gd h
   obtain ⟨h2,h⟩:=F_gd h
   exact ⟨h1,h2,hK _ _ _ h⟩
  ·cases h
 ·obtain ⟨h,e1⟩:=w1_ok h
  split at h
  ·rename_i hl
   show AV.live s.er.lk (s.er.ev _)=true/\aslice _ s.er.ev _ _ _ (fun a=>KP a [] []) (s.er.ev _)
   rw [e1]
   exact ⟨xlive_ok hl,xslice_ok h fun v h=>hK _ _ _ h⟩
  ·cases h
 ·obtain ⟨h,e1⟩:=w1_ok h
  split at h
  ·rename_i vs hx
   split at h
   ·rename_i a ha
    exact ⟨XV.erL vs,_,by rw [e1,hx];rfl,nth_ok ha,hK _ _ _ h⟩
   ·cases h
  ·cases h
 ·obtain ⟨h,e1⟩:=w1_ok h
  obtain ⟨vs,h,e2⟩:=wL_ok h
  obtain ⟨fn,caps,ks,z,rr,nbs,f1,fz,f2,f3⟩:=xcall_ok hT h hK
  exact ⟨fn,caps,ks,z,rr,nbs,by rw [e1];exact f1,fz,by rw [e2];exact f2,by rw [e2];exact f3⟩
 ·obtain ⟨h,e1⟩:=w1_ok h
  split at h
  ·rename_i hl
   split at h
   ·rename_i m hm
    show AV.live s.er.lk (s.er.ev _)=true/\∃ m,(s.er.ev _).len? _=some m/\_
    rw [e1]
    exact ⟨xlive_ok hl,m,xlen_ok hm,hK _ _ _ h⟩
   ·cases h
  ·cases h
 ·obtain ⟨h,e1⟩:=w1_ok h
  obtain ⟨h,e2⟩:=w1_ok h
  split at h
  ·rename_i k p k' q hx hy
   rw [Option.ite_none_right_eq_some] at h
   obtain ⟨rfl,h⟩:=h
   refine ⟨k,p,q,by rw [e1,hx];rfl,by rw [e2,hy];rfl,?_⟩
   have:=hK _ _ _ h
   split at this <;> exact this
  ·cases h
 ·obtain ⟨vs,h,e⟩:=wL_ok h
  show KP (.clo _ (_:List AV)) [] []
  rw [e];exact hK _ _ _ h
 ·obtain ⟨h,e1⟩:=w1_ok h
  split at h
  ·rename_i k j hx
   exact ⟨k,j,by rw [e1,hx];rfl,hK _ _ _ h⟩
  ·cases h
 ·obtain ⟨h,e1⟩:=w1_ok h
  obtain ⟨xs,h,h1,h2⟩:=asLeaf_cont h
  refine ⟨_,bytesI xs,by rw [e1];exact h1,?_,by rw [e1];exact h2,hK _ _ _ h⟩
  exact bytesOf_map
 ·obtain ⟨h,e1⟩:=w1_ok h
  split at h
  ·rename_i t hx
   refine ⟨t,by rw [e1,hx];rfl,?_⟩
   have:=hK _ _ _ h
   simp only [XV.er,avOf,intsS,List.map_map] at this
   exact this
  ·cases h
 ·obtain ⟨h,e1⟩:=w1_ok h
  obtain ⟨h,e2⟩:=w1_ok h
  split at h
  ·rename_i hl
   split at h
   ·rename_i k j hj
    obtain ⟨h1,h2,h3⟩:=xiaA_ok h (KP:=fun a=>KP a [] []) fun v h=>hK _ _ _ h
    show AV.live s.er.lk (s.er.ev _)=true/\_
    rw [e1]
    exact ⟨xlive_ok hl,k,j,by rw [e2,hj];rfl,h1,h2,h3⟩
   ·cases h
  ·cases h
 ·obtain ⟨h,e1⟩:=w1_ok h
  obtain ⟨h,e2⟩:=w1_ok h
  split at h
  ·rename_i k j hj
   obtain ⟨cs,h1,h2,h3,h4⟩:=xixA_ok h (KP:=fun a=>KP a [] []) fun v h=>hK _ _ _ h
   exact ⟨cs,k,j,by rw [e1,<- unA_er,h1],by rw [e2,hj];rfl,h2,h3,h4⟩
  ·cases h
 ·obtain ⟨h,e1⟩:=w1_ok h
  unfold xslA at h
  split at h
  ·rename_i hd ix hx
   split at h
   ·rename_i mt n kk y hl
    split at h
    ·rename_i hb
     have hb:=Nat.le_of_ble_eq_true hb
     refine ⟨hd,ix,mt,y.l.map (arD kk),by rw [e1,hx];rfl,by rw [lk_er,hl];rfl,by rw [List.length_map,y.len];exact hb,?_⟩
     refine xnat_ok h fun hh h=>xnat_ok h fun l h=>?_
     obtain ⟨h1,h⟩:=F_gd h
     obtain ⟨h2,h⟩:=F_gd h
     have:=hK _ _ _ h
     rw [ixA_eq,Nat.mul_one] at this
     exact ⟨h1,h2,this⟩
    ·cases h
   ·cases h
  ·rename_i hd off hx
   split at h
   ·rename_i mt t x hl
    split at h
    ·rename_i a ha
     split at h
     ·rename_i hb
      have hb:=Nat.eq_of_beq_eq_true hb
      subst hb
      obtain ⟨c1,_⟩:=rsl_cut (l:=0) (len:=a.n) ha (by omega)
      refine ⟨hd,off,mt,sgD (t.ds x),by rw [e1,hx];rfl,by rw [lk_er,hl];rfl,c1,?_⟩
      refine xnat_ok h fun hh h=>xnat_ok h fun l h=>?_
      obtain ⟨h1,h⟩:=F_gd h
      obtain ⟨h2,h⟩:=F_gd h
      exact ⟨h1,h2,hK _ _ _ h⟩
     ·cases h
    ·cases h
   ·cases h
  ·cases h
 ·split at h
  ·rename_i t
   unfold xnewR at h
   split at h
   ·rename_i n k
    split at h
    ·rename_i hz
     refine ⟨List.replicate n (DV.I k 0),by rw [zK_ok hz];exact data_ds _,?_⟩
     have:=hK _ _ _ h
     have e:(List.replicate n (DV.I k 0)).map (fun d=>[d])=(Arr.zero n).l.map (arD k):=by
      show _=(List.replicate n (0:Int)).map (arD k)
      rw [List.map_replicate,List.map_replicate];rfl
     rw [e];exact this
    ·cases h
   ·split at h
    ·rename_i hz
     exact ⟨_,by rw [zeq_ok hz];exact data_ds _,hK _ _ _ h⟩
    ·cases h
  ·cases h
 ·obtain ⟨h,e1⟩:=w1_ok h
  unfold xboxR at h
  split at h
  ·rename_i n k y hx
   refine ⟨(y.l.map (DV.I k)).map .D,y.l.map (DV.I k),?_,data_ds _,?_⟩
   ·rw [e1,hx]
    show (if AV.allOne (((Ty.ar n k).ds y).map AV.D)=true then some (((Ty.ar n k).ds y).map AV.D) else none)=some (((Ty.ar n k).ds y).map AV.D)
    rw [if_pos (ds_noC _ _)]
   have:=hK _ _ _ h
   have e:(y.l.map (DV.I k)).map (fun d=>[d])=y.l.map (arD k):=by rw [List.map_map];rfl
   rw [e];exact this
  ·rename_i cs hx
   split at h
   ·rename_i t _
    split at h
    ·rename_i x hp
     obtain ⟨l1,e2,e3⟩:=pkD_ok hp
     rw [List.append_nil] at e2
     subst e2
     refine ⟨(t.ds x).map .D,t.ds x,?_,data_ds _,hK _ _ _ h⟩
     rw [e1,hx]
     show (if AV.allOne (XV.fcL cs)=true then some (XV.fcL cs) else none)=_
     rw [e3,if_pos (ds_noC _ _)]
    ·cases h
   ·cases h
  ·cases h
 ·obtain ⟨h,e1⟩:=w1_ok h
  obtain ⟨h,e2⟩:=w1_ok h
  obtain ⟨xs,ys,p,q,h1,h2,h3,h4,h5,h6,h⟩:=xeqa_ok h
  refine ⟨xs,ys,p,q,by rw [e1,<- unA_er,h1],by rw [e2,<- unA_er,h2],h3,h4,h5,h6,?_⟩
  have:=hK _ _ _ h
  split at this <;> exact this
 ·obtain ⟨h,e1⟩:=w1_ok h
  split at h
  ·rename_i hl
   split at h
   ·rename_i m hm
    show AV.live s.er.lk (s.er.ev _)=true/\∃ m,(s.er.ev _).len? false=some m/\_
    rw [e1]
    refine ⟨xlive_ok hl,m,xlen_ok hm,?_⟩
    rcases F_if h with ⟨h0,h⟩ | ⟨h0,h⟩
    ·rw [if_neg (by have:=of_decide_eq_true h0;omega)]
     exact hK _ _ _ h
    ·rw [if_pos (by have:=of_decide_eq_false h0;omega)]
     exact hK _ _ _ h
   ·cases h
  ·cases h
 ·obtain ⟨h,e1⟩:=w1_ok h
  split at h
  ·rename_i hl
   show AV.live s.er.lk (s.er.ev _)=true/\_
   rw [e1]
   exact ⟨xlive_ok hl,xnilc_ok h (KP:=fun a=>KP a [] []) fun v h=>hK _ _ _ h⟩
  ·cases h
 ·obtain ⟨h,e1⟩:=w1_ok h
  split at h
  ·rename_i hl
   show AV.live s.er.lk (s.er.ev _)=true/\_
   rw [e1]
   exact ⟨xlive_ok hl,xisp_ok h (KP:=fun a=>KP a [] []) fun v h=>hK _ _ _ h⟩
  ·cases h
 ·obtain ⟨h,e1⟩:=w1_ok h
  obtain ⟨h,e2⟩:=w1_ok h
  split at h
  ·rename_i xs ys hx hy
   split at h
   ·rename_i q hq
    refine ⟨XV.fcL xs,XV.fcL ys,q,by rw [e1,hx];rfl,by rw [e2,hy];rfl,xeqS_ok hq,?_⟩
    have:=hK _ _ _ h
    split at this <;> exact this
   ·cases h
  ·cases h
 ·exact hK _ _ _ h
 ·cases h
 ·cases h
 ·cases h
 ·cases h
 ·cases h
 ·obtain ⟨h,e1⟩:=w1_ok h
  split at h
  ·rename_i t x off hx
   show aload (fun _=>none) _ (fun a=>KP a [] []) (s.er.ev _)
   rw [e1,hx]
   exact xload_rop (xload_ok (s:=s) (a:=.rop t x off) h (KP:=fun a=>KP a [] []) fun v h=>hK _ _ _ h)
  ·cases h
 ·obtain ⟨h,e1⟩:=w1_ok h
  show (match s.er.ev _ with
   | .D (.L es)=>aslice _ s.er.ev _ _ _ (fun a=>KP a [] []) (.D (.L es))
   | .fl es=>aslice _ s.er.ev _ _ _ (fun a=>KP a [] []) (.fl es)
   | _=>False)
  rw [e1]
  split at h
  ·rename_i t xs hx
   rw [hx]
   exact xslice_ok (v:=.d (.sl t) xs) h fun v h=>hK _ _ _ h
  ·rename_i t xs hx
   rw [hx]
   exact xslice_ok (v:=.fl t xs) h fun v h=>hK _ _ _ h
  ·cases h
 ·obtain ⟨h,e1⟩:=w1_ok h
  obtain ⟨h,e2⟩:=w1_ok h
  split at h
  ·rename_i k j t xs hj hx
   obtain ⟨h1,h2⟩:=xiaddr_ok h (KP:=fun a=>KP a [] []) fun v h=>hK _ _ _ h
   exact ⟨k,j,by rw [e2,hj];rfl,h1,by rw [e1,hx];exact h2⟩
  ·rename_i k j t xs hj hx
   obtain ⟨h1,h2⟩:=xiaddr_ok h (KP:=fun a=>KP a [] []) fun v h=>hK _ _ _ h
   exact ⟨k,j,by rw [e2,hj];rfl,h1,by rw [e1,hx];exact h2⟩
  ·cases h
 ·obtain ⟨h,e1⟩:=w1_ok h
  obtain ⟨h,e2⟩:=w1_ok h
  split at h
  ·rename_i t _
   obtain ⟨k1,k2,l,c,v,b,h1,h2,h3,h4,h5,h6,h7,h8,h9⟩:=xmks_ok h
   refine ⟨k1,k2,l,c,by rw [e1,h1],by rw [e2,h2],h3,h4,h5,h6,?_⟩
   have:=hK _ _ _ h7
   rw [h8] at this
   rw [<- h9];exact this
  ·cases h
 ·obtain ⟨h,e1⟩:=w1_ok h
  split at h
  ·rename_i hd off len hv
   split at h
   ·rename_i mt n k x hl
    obtain ⟨h1,h⟩:=F_gd h
    obtain ⟨h2,h⟩:=F_gd h
    exact ⟨hd,off,len,mt,x.l.map (arD k),by rw [e1,hv];rfl,by rw [lk_er,hl];rfl,h1,h2,hK _ _ _ h⟩
   ·cases h
  ·rename_i hd off l len hv
   split at h
   ·rename_i mt t x hl
    obtain ⟨h1,h⟩:=F_gd h
    obtain ⟨h2,h⟩:=F_gd h
    exact ⟨hd,off + l,len,mt,sgD (t.ds x),by rw [e1,hv];rfl,by rw [lk_er,hl];rfl,h1,h2,hK _ _ _ h⟩
   ·cases h
  ·cases h
 ·obtain ⟨h,e1⟩:=w1_ok h
  split at h
  ·rename_i t xs hv
   refine ⟨by rw [e1,hv];rfl,xs.length,.inr ⟨xs.map t.ds,by rw [e1,hv];rfl,(List.length_map _).symm⟩,hK _ _ _ h⟩
  ·rename_i t hv
   refine ⟨by rw [e1,hv];rfl,0,.inr ⟨[],by rw [e1,hv];rfl,rfl⟩,hK _ _ _ h⟩
  ·cases h
 ·obtain ⟨h,e1⟩:=w1_ok h
  obtain ⟨h,e2⟩:=w1_ok h
  split at h
  ·rename_i t0 kd j t hv hw ht
   split at h
   ·rename_i hb hz
    have hb:=Nat.eq_of_beq_eq_true hb
    obtain ⟨h1,h⟩:=F_gd h
    obtain ⟨h2,h⟩:=F_gd h
    have h1:(0:Int) < j:=h1
    have hz:=mapD_inj (zeq_ok hz)
    have hq:=hK _ _ _ h
    subst hb hz
    have h1':(0:Int) <= j:=Int.le_of_lt h1
    have h1'':0 < 0 + Int.toNat j:=by omega
    refine ⟨by rw [e1,hv];rfl,0,0,kd,j,[],.inr ⟨by rw [e1,hv];rfl,rfl,rfl,rfl⟩,by rw [e2,hw];rfl,h1',Nat.le_refl _,fun e he=>(by simp at he),h1'',h2,?_⟩
    have e3:(XV.slw (.O s.own.length) t (Int.toNat j)).er=.sl (.O s.own.length) t.n 0 (0 + Int.toNat j):=by
     show AV.sl _ t.n 0 _=_
     rw [Nat.zero_add]
    have e4:([XB.row true t (List.replicate (Int.toNat j) t.z)].map XB.er:List Blk)=[.row true t.n (([]:List (List DV)).take 0 ++ List.replicate (Int.toNat j) (t.ds t.z))]:=by
     show [Blk.row true t.n ((List.replicate _ t.z).map t.ds)]=_
     rw [List.map_replicate];rfl
    rw [e3,e4] at hq
    exact hq
   ·cases h
  ·cases h
 ·obtain ⟨h,e1⟩:=w1_ok h
  split at h
  ·rename_i hv
   exact ⟨by rw [e1,hv];rfl,hK _ _ _ h⟩
  ·cases h
 ·obtain ⟨h,e1⟩:=w1_ok h
  split at h
  ·rename_i hv
   exact ⟨_,by rw [e1,hv];rfl,hK _ _ _ h⟩
  ·rename_i hv
   exact ⟨_,by rw [e1,hv];rfl,hK _ _ _ h⟩
  ·cases h
 ·obtain ⟨h,e1⟩:=w1_ok h
  split at h
  ·rename_i t' a hv
   split at h
   ·rename_i ht ha
    refine ⟨?_,hK _ _ _ h⟩
    rw [e1,hv,Nat.eq_of_beq_eq_true ht,Array.isEmpty_iff.1 ha];rfl
   ·cases h
  ·cases h
 ·cases h
end Go.Eng

namespace Go.Eng
open Go.RowKit
variable {R:Type}

def xstB (s:XS) (sz:Nat) (v:XV) (K:XS->Option R) (h:Hd) (off:Nat):Option R:=match s.lk h with
 | some (.box cs)=>match xcells v with
  | some ys=>match Nat.beq (szL ys) sz with
   | true=>match updL cs off ys sz with
    | some cs'=>K (s.setBlk h (some (.box cs')))
    | none=>none
   | false=>none
  | none=>none
 | _=>none
def intK (k:IntKind):XV->Option Int
 | .d t c=>t.cst (.i k) c
 | _=>none
theorem intK_ok [YL] {k:IntKind} {v:XV} {c:Int} (h:intK k v=some c):v.er=.D (.I k c):=by
 unfold intK at h
 split at h
 ·obtain ⟨e,rfl⟩:=Ty.cst_ok h
  subst e;rfl
 ·cases h
theorem set_eq {α:Type} {l:List α} {i:Nat} {v:α} (h:i < l.length):l.take i ++ [v] ++ l.drop (i + 1)=l.set i v:=by
 rw [List.set_eq_take_append_cons_drop,if_pos h,List.append_assoc];rfl
theorem set_part {α:Type} {l:List α} {off n j:Nat} {v:α} (h:off + n <= l.length) (hj:j < n):l.take off ++ ((l.drop off).take n).set j v ++ l.drop (off + n)=l.set (off + j) v:=by
 apply List.ext_getElem?
 intro i
 rw [List.getElem?_set]
 have hl:(((l.drop off).take n).set j v).length=n:=by rw [List.length_set,List.length_take,List.length_drop];omega
 have ht:(l.take off).length=off:=by rw [List.length_take];omega
 rcases Nat.lt_or_ge i off with h1 | h1
 ·rw [List.append_assoc,List.getElem?_append_left (by omega),List.getElem?_take_of_lt h1,if_neg (by omega)]
 ·rcases Nat.lt_or_ge i (off + n) with h2 | h2
  ·rw [List.getElem?_append_left (by rw [List.length_append];omega),List.getElem?_append_right (by omega),ht,List.getElem?_set]
   by_cases e:off + j=i
   ·subst e
    rw [if_pos (by omega),if_pos rfl,if_pos (by rw [List.length_take,List.length_drop];omega),if_pos (by omega)]
   ·rw [if_neg (by omega),if_neg e,List.getElem?_take_of_lt (by omega),List.getElem?_drop]
    congr 1;omega
  ·rw [List.getElem?_append_right (by rw [List.length_append];omega),List.length_append,ht,hl,List.getElem?_drop,if_neg (by omega)]
   congr 1;omega
def arSet (cs:List XV) (off j:Nat) (a:ArL) (c:Int):Option (List XV):=updL cs off [.d (.ar a.n a.k) (a.x.set j c)] a.n
theorem arSet_ok [YL] {cs l:List XV} {off j:Nat} {a:ArL} {c:Int} (ha:arAt cs off=some a) (hj:j < a.n) (h:arSet cs off j a c=some l):off + j < (XV.fcL cs).length/\XV.fcL l=(XV.fcL cs).set (off + j) (.D (.I a.k c)):=by
 obtain ⟨h1,h2⟩:=arAt_ok ha
 obtain ⟨_,h3⟩:=updL_ok h
 refine ⟨by omega,?_⟩
 rw [h3]
 have e:XV.fcL [XV.d (.ar a.n a.k) (a.x.set j c)]=(((XV.fcL cs).drop off).take a.n).set j (.D (.I a.k c)):=by
  rw [h1]
  show (((a.x.set j c).l.map (DV.I a.k)).map AV.D) ++ []=_
  rw [List.append_nil,Arr.l_set,List.map_set,List.map_set]
 rw [e]
 exact set_part h2 hj
def xstore (s:XS) (sz:Nat) (v:XV) (K:XS->Option R):XV->Option R
 | .ptr h off=>xstB s sz v K h off
 | .pa h off j=>match s.lk h with
  | some (.box cs)=>match arAt cs off,sz with
   | some a,1=>match intK a.k v with
    | some c=>gd? (j < a.n) (match arSet cs off j a c with
     | some cs'=>K (s.setBlk h (some (.box cs')))
     | none=>none)
    | none=>none
   | none,sz=>xstB s sz v K h (off + j)
   | _,_=>none
  | _=>none
 | .epa h t ix off j=>match s.lk h with
  | some (.row true t' xs)=>match t'.beq t,sz with
   | true,1=>gn? xs ix fun e=>match arAt (lvs t' e) off with
    | some a=>match intK a.k v with
     | some c=>gd? (j < a.n) (match arSet (lvs t' e) off j a c with
      | some l=>match pkD t' l with
       | some (y,[])=>K (s.setBlk h (some (.row true t' (xs.set ix y))))
       | _=>none
      | none=>none)
     | none=>none
    | none=>none
   | _,_=>none
  | _=>none
 | .ept h t ix off=>match s.lk h with
  | some (.row true t' xs)=>match t'.beq t,xcells v with
   | true,some ys=>match Nat.beq (szL ys) sz,(Nat.beq sz 1 || !(Nat.beq t'.n 1)) with
    | true,true=>gn? xs ix fun e=>match updL (lvs t' e) off ys sz with
     | some l=>match pkD t' l with
      | some (y,[])=>K (s.setBlk h (some (.row true t' (xs.set ix y))))
      | _=>none
     | none=>none
    | _,_=>none
   | _,_=>none
  | _=>none
 | .apt h ix=>match s.lk h with
  | some (.arr true n k x)=>match sz with
   | 1=>match v with
    | .d t c=>match t.cst (.i k) c with
     | some c=>gd? (ix < n) (K (s.setBlk h (some (.arr true n k (x.set ix c)))))
     | none=>none
    | _=>none
   | sz=>match ix,v with
    | 0,.d t y=>match t.cst (.ar n k) y,Nat.beq sz n with
     | some y,true=>K (s.setBlk h (some (.arr true n k y)))
     | _,_=>none
    | 0,.agg [.d t y]=>match t.cst (.ar n k) y,Nat.beq sz n with
     | some y,true=>K (s.setBlk h (some (.arr true n k y)))
     | _,_=>none
    | ix,v=>match unA v with
     | .d t y=>match t.cst (.ar sz k) y with
      | some y=>gd? (ix + sz <= n) (K (s.setBlk h (some (.arr true n k (x.put ix y.l)))))
      | none=>none
     | _=>none
  | _=>none
 | .rpt h off=>match s.lk h with
  | some (.rb true t x)=>match xcells v with
   | some ys=>match Nat.beq (szL ys) sz && Nat.ble 1 sz with
    | true=>match updL (lvs t x) off ys sz with
     | some l=>match pkD t l with
      | some (y,[])=>K (s.setBlk h (some (.rb true t y)))
      | _=>none
     | none=>none
    | false=>none
   | none=>none
  | _=>none
 | .rpa h off j=>match s.lk h with
  | some (.rb true t x)=>match arAt (lvs t x) off,sz with
   | some a,1=>match intK a.k v with
    | some c=>gd? (j < a.n) (match arSet (lvs t x) off j a c with
     | some l=>match pkD t l with
      | some (y,[])=>K (s.setBlk h (some (.rb true t y)))
      | _=>none
     | none=>none)
    | none=>none
   | _,_=>none
  | _=>none
 | _=>none
theorem xstR [YL] {s:XS} {hd:Hd} {t:Ty} {x y:t.T} {off sz:Nat} {vs:List DV} {a:AV} {KP:AState->Prop} (hl:s.lk hd=some (.rb true t x)) (hc:a.cells?=some (vs.map .D)) (hn:vs.length=sz) (hle:off + sz <= (t.ds x).length)
  (hlt:off < (t.ds x).length) (hds:t.ds y=(t.ds x).take off ++ vs ++ (t.ds x).drop (off + sz)) (hK:KP (s.setBlk hd (some (.rb true t y))).er):astore s.er sz a KP (.eptr hd 1 off 0):=by
 rw [er_setBlk hl] at hK
 have hK:KP (s.er.setBlk hd (some (.row true 1 (sgD (t.ds y))))):=hK
 rw [hds] at hK
 by_cases h1:sz=1
 ·subst h1
  obtain ⟨d,rfl⟩:=List.length_eq_one_iff.1 hn
  refine .inl ⟨.inr rfl,sgD (t.ds x),[(t.ds x)[off]],_,[d],by rw [lk_er,hl];rfl,sgD_get (List.getElem?_eq_getElem hlt),hc,rfl,rfl,Nat.le_refl _,?_⟩
  have e:(sgD (t.ds x)).set off ([(t.ds x)[off]].take 0 ++ [d] ++ [(t.ds x)[off]].drop (0 + 1))=sgD ((t.ds x).take off ++ [d] ++ (t.ds x).drop (off + 1)):=by
   rw [set_eq hlt];unfold sgD;rw [List.map_set];rfl
  rw [e];exact hK
 ·refine .inr ⟨rfl,rfl,h1,sgD (t.ds x),_,vs,by rw [lk_er,hl];rfl,hc,dataX _,hn,by rw [sgD_len];exact hle,?_⟩
  have e:(sgD (t.ds x)).take off ++ (vs.map fun d=>[d]) ++ (sgD (t.ds x)).drop (off + sz)=sgD ((t.ds x).take off ++ vs ++ (t.ds x).drop (off + sz)):=by
   unfold sgD;rw [List.map_append,List.map_append,List.map_take,List.map_drop]
  rw [e];exact hK
theorem xcells_arr {n:Nat} {k:IntKind} {y:Arr n}:(AV.agg (((Ty.ar n k).ds y).map .D)).cells?=some (((Ty.ar n k).ds y).map .D):=by
 show (if AV.allOne (((Ty.ar n k).ds y).map .D)=true then some (((Ty.ar n k).ds y).map AV.D) else none)=_
 rw [if_pos (ds_noC _ _)]
theorem xstore_arr [YL] {s:XS} {hd:Hd} {n:Nat} {k:IntKind} {x y:Arr n} {sz:Nat} {xo:Operand} {KP:AState->Prop} (hl:s.lk hd=some (.arr true n k x)) (h1:sz ≠ 1) (hb:sz=n) (hc:(s.er.ev xo).cells?=some (((Ty.ar n k).ds y).map .D))
  (hK:KP (s.setBlk hd (some (.arr true n k y))).er):astore s.er sz (s.er.ev xo) KP (.eptr hd 1 0 0):=by
 have e1:=x.len
 have e2:=y.len
 refine .inr ⟨rfl,rfl,h1,x.l.map (arD k),_,(Ty.ar n k).ds y,by rw [lk_er,hl];rfl,hc,dataX _,by rw [Ty.ds_len];exact hb.symm,by rw [List.length_map];omega,?_⟩
 have e:(x.l.map (arD k)).take 0 ++ (((Ty.ar n k).ds y).map fun d=>[d]) ++ (x.l.map (arD k)).drop (0 + sz)=y.l.map (arD k):=by
  rw [List.take_zero,List.nil_append,List.drop_eq_nil_of_le (by rw [List.length_map];omega),List.append_nil]
  show ((y.l.map (DV.I k)).map fun d=>[d])=_
  rw [List.map_map];rfl
 rw [e]
 rw [er_setBlk hl] at hK
 exact hK
theorem xstB_ok [YL] {s:XS} {sz:Nat} {xo:Operand} {v:XV} {hd:Hd} {off:Nat} {K:XS->Option R} {r:R} (hv:s.er.ev xo=v.er) (h:xstB s sz v K hd off=some r) {KP:AState->Prop} (hK:∀ s',K s'=some r->KP s'.er):astore s.er sz (s.er.ev xo) KP (.ptr hd off):=by
 unfold xstB at h
 split at h
 ·rename_i cs hl
  split at h
  ·rename_i ys hy
   split at h
   ·rename_i hb
    split at h
    ·rename_i cs' hu
     obtain ⟨h1,h2⟩:=updL_ok hu
     have:=hK _ h
     rw [er_setBlk hl] at this
     refine ⟨XV.fcL cs,XV.fcL ys,by rw [lk_er,hl];rfl,by rw [hv];exact xcells_ok hy,by rw [szL_ok];exact Nat.eq_of_beq_eq_true hb,h1,?_⟩
     rw [<- h2];exact this
    ·cases h
   ·cases h
  ·cases h
 ·cases h
theorem xstore_ok [YL] {s:XS} {sz:Nat} {xo:Operand} {v a:XV} {K:XS->Option R} {r:R} (hv:s.er.ev xo=v.er) (h:xstore s sz v K a=some r) {KP:AState->Prop} (hK:∀ s',K s'=some r->KP s'.er):astore s.er sz (s.er.ev xo) KP a.er:=by
 unfold xstore at h
 split at h
 ·exact xstB_ok hv h hK
 ·rename_i hd off j
  split at h
  ·rename_i cs hl
   split at h
   ·rename_i a ha
    split at h
    ·rename_i c hc
     obtain ⟨hj,h⟩:=F_gd h
     split at h
     ·rename_i cs' hs
      obtain ⟨h1,h2⟩:=arSet_ok ha hj hs
      have:=hK _ h
      rw [er_setBlk hl] at this
      have e:s.er.ev xo=.D (.I a.k c):=by rw [hv];exact intK_ok hc
      refine ⟨XV.fcL cs,[.D (.I a.k c)],by rw [lk_er,hl];rfl,by rw [e];rfl,rfl,by omega,?_⟩
      rw [set_eq h1,<- h2];exact this
     ·cases h
    ·cases h
   ·exact xstB_ok hv h hK
   ·cases h
  ·cases h
 ·rename_i hd t ix off j
  split at h
  ·rename_i t' xs hl
   split at h
   ·rename_i hb
    obtain rfl:=Ty.eq_of hb
    replace h:=F_gn h
    obtain ⟨e,he,h⟩:=h
    split at h
    ·rename_i a ha
     split at h
     ·rename_i c hc
      obtain ⟨hj,h⟩:=F_gd h
      split at h
      ·rename_i l hs
       split at h
       ·rename_i y hp
        obtain ⟨h1,h2⟩:=arSet_ok ha hj hs
        obtain ⟨l1,e1,e2⟩:=pkD_ok hp
        rw [List.append_nil] at e1
        subst e1
        rw [fcL_lvs] at h1 h2
        rw [List.length_map] at h1
        have hds:t'.ds y=(t'.ds e).set (off + j) (.I a.k c):=by
         have h3:(t'.ds y).map AV.D=((t'.ds e).set (off + j) (.I a.k c)).map AV.D:=by rw [<- e2,h2,List.map_set]
         exact mapD_inj h3
        have ev:s.er.ev xo=.D (.I a.k c):=by rw [hv];exact intK_ok hc
        refine .inl ⟨.inr rfl,xs.map t'.ds,t'.ds e,[.D (.I a.k c)],[.I a.k c],by rw [lk_er,hl];rfl,by rw [List.getElem?_map,he];rfl,by rw [ev];rfl,rfl,rfl,by omega,?_⟩
        have:=hK _ h
        rw [er_setBlk hl] at this
        rw [set_eq h1,<- hds]
        have e3:(xs.map t'.ds).set ix (t'.ds y)=(xs.set ix y).map t'.ds:=by rw [List.map_set]
        rw [e3];exact this
       ·cases h
      ·cases h
     ·cases h
    ·cases h
   ·cases h
  ·cases h
 ·rename_i hd t ix off
  split at h
  ·rename_i t' xs hl
   split at h
   ·rename_i ys hb hy
    obtain rfl:=Ty.eq_of hb
    split at h
    ·rename_i hb1 hb2
     replace h:=F_gn h
     obtain ⟨e,he,h⟩:=h
     split at h
     ·rename_i l hu
      split at h
      ·rename_i y hp
       obtain ⟨h1,h2⟩:=updL_ok hu
       obtain ⟨l1,e1,e2⟩:=pkD_ok hp
       rw [List.append_nil] at e1
       subst e1
       rw [fcL_lvs] at h1 h2
       rw [List.length_map] at h1
       have hsz:=Nat.eq_of_beq_eq_true hb1
       have hlen:(XV.fcL ys).length=sz:=by rw [szL_ok];exact hsz
       have hys:XV.fcL ys=(((t'.ds y).drop off).take sz).map .D:=by
        have:(((XV.fcL l).drop off).take sz)=XV.fcL ys:=by
         rw [h2,List.append_assoc,List.drop_append_of_le_length (by rw [List.length_take,List.length_map];omega),List.drop_eq_nil_of_le (by rw [List.length_take,List.length_map];omega),List.nil_append,List.take_append_of_le_length (by omega),List.take_of_length_le (by omega)]
        rw [<- this,e2,List.map_take,List.map_drop]
       have hds:t'.ds y=(t'.ds e).take off ++ ((t'.ds y).drop off).take sz ++ (t'.ds e).drop (off + sz):=by
        have h3:(t'.ds y).map AV.D=((t'.ds e).take off ++ ((t'.ds y).drop off).take sz ++ (t'.ds e).drop (off + sz)).map AV.D:=by
         rw [List.map_append,List.map_append,<- hys,List.map_take,List.map_drop,<- h2,e2]
        have:=congrArg AV.data h3
        rwa [dataX,dataX,Option.some.injEq] at this
       refine .inl ⟨?_,xs.map t'.ds,t'.ds e,XV.fcL ys,((t'.ds y).drop off).take sz,by rw [lk_er,hl];rfl,by rw [List.getElem?_map,he];rfl,by rw [hv];exact xcells_ok hy,by rw [hys];exact dataX _,?_,h1,?_⟩
       ·rw [Bool.or_eq_true] at hb2
        rcases hb2 with hb2 | hb2
        ·exact .inr (Nat.eq_of_beq_eq_true hb2)
        ·exact .inl fun e=>by rw [e] at hb2;cases hb2
       ·have:=congrArg List.length hys
        rw [List.length_map,hlen] at this
        exact this.symm
       ·have:=hK _ h
        rw [er_setBlk hl] at this
        rw [<- hds]
        have e3:(xs.map t'.ds).set ix (t'.ds y)=(xs.set ix y).map t'.ds:=by rw [List.map_set]
        rw [e3];exact this
      ·cases h
     ·cases h
    ·cases h
   ·cases h
  ·cases h
 ·rename_i hd ix
  split at h
  ·rename_i n k x hl
   split at h
   ·split at h
    ·rename_i t c
     split at h
     ·rename_i c' hc
      obtain ⟨e,rfl⟩:=Ty.cst_ok hc
      subst e
      obtain ⟨h1,h⟩:=F_gd h
      have e1:=x.len
      refine .inl ⟨.inr rfl,x.l.map (arD k),arD k (x.l[ix]'(by omega)),[.D (.I k c)],[.I k c],by rw [lk_er,hl];rfl,by rw [List.getElem?_map,List.getElem?_eq_getElem (by omega)];rfl,by rw [hv];rfl,rfl,rfl,Nat.le_refl _,?_⟩
      have:=hK _ h
      rw [er_setBlk hl] at this
      have e3:(x.l.map (arD k)).set ix ((arD k (x.l[ix]'(by omega))).take 0 ++ [.I k c] ++ (arD k (x.l[ix]'(by omega))).drop (0 + 1))=(x.set ix c).l.map (arD k):=by
       rw [Arr.l_set,List.map_set];rfl
      rw [e3];exact this
     ·cases h
    ·cases h
   ·rename_i h1
    split at h
    ·rename_i t y
     split at h
     ·rename_i y' hy hb
      obtain ⟨e,rfl⟩:=Ty.cst_ok hy
      subst e
      exact xstore_arr hl h1 (Nat.eq_of_beq_eq_true hb) (by rw [hv];exact xcells_arr) (hK _ h)
     ·cases h
    ·rename_i t y
     split at h
     ·rename_i y' hy hb
      obtain ⟨e,rfl⟩:=Ty.cst_ok hy
      subst e
      exact xstore_arr hl h1 (Nat.eq_of_beq_eq_true hb) (by
       rw [hv]
       show (AV.agg (((Ty.ar n k).ds _).map AV.D ++ [])).cells?=_
       rw [List.append_nil];exact xcells_arr) (hK _ h)
     ·cases h
    ·split at h
     ·rename_i t y hu
      split at h
      ·rename_i y' hy
       obtain ⟨e,rfl⟩:=Ty.cst_ok hy
       subst e
       obtain ⟨h2,h⟩:=F_gd h
       have e1:=x.len
       refine .inr ⟨rfl,rfl,h1,x.l.map (arD k),_,(Ty.ar sz k).ds y,by rw [lk_er,hl];rfl,by rw [hv,<- unA_er,hu];exact xcells_arr,dataX _,by rw [Ty.ds_len];rfl,by rw [List.length_map,e1];exact h2,?_⟩
       have:=hK _ h
       rw [er_setBlk hl] at this
       have e3:(x.l.map (arD k)).take ix ++ (((Ty.ar sz k).ds y).map fun d=>[d]) ++ (x.l.map (arD k)).drop (ix + sz)=(x.put ix y.l).l.map (arD k):=by
        rw [Arr.l_put (by rw [y.len];exact h2),List.map_append,List.map_append,List.map_take,List.map_drop,y.len]
        congr 2
        show ((y.l.map (DV.I k)).map fun d=>[d])=_
        rw [List.map_map];rfl
       rw [e3];exact this
      ·cases h
     ·cases h
  ·cases h
 ·rename_i hd off
  split at h
  ·rename_i t x hl
   split at h
   ·rename_i ys hy
    split at h
    ·rename_i hb
     rw [Bool.and_eq_true] at hb
     have hb0:=Nat.le_of_ble_eq_true hb.2
     split at h
     ·rename_i l hu
      split at h
      ·rename_i y hp
       obtain ⟨h1,h2⟩:=updL_ok hu
       obtain ⟨l1,e1,e2⟩:=pkD_ok hp
       rw [List.append_nil] at e1
       subst e1
       rw [fcL_lvs] at h1 h2
       rw [List.length_map] at h1
       have hlen:(XV.fcL ys).length=sz:=by rw [szL_ok];exact Nat.eq_of_beq_eq_true hb.1
       have hys:XV.fcL ys=(((t.ds y).drop off).take sz).map .D:=by
        have:(((XV.fcL l).drop off).take sz)=XV.fcL ys:=by
         rw [h2,List.append_assoc,List.drop_append_of_le_length (by rw [List.length_take,List.length_map];omega),List.drop_eq_nil_of_le (by rw [List.length_take,List.length_map];omega),List.nil_append,List.take_append_of_le_length (by omega),List.take_of_length_le (by omega)]
        rw [<- this,e2,List.map_take,List.map_drop]
       have hds:t.ds y=(t.ds x).take off ++ ((t.ds y).drop off).take sz ++ (t.ds x).drop (off + sz):=by
        have h3:(t.ds y).map AV.D=((t.ds x).take off ++ ((t.ds y).drop off).take sz ++ (t.ds x).drop (off + sz)).map AV.D:=by
         rw [List.map_append,List.map_append,<- hys,List.map_take,List.map_drop,<- h2,e2]
        exact mapD_inj h3
       have hn:(((t.ds y).drop off).take sz).length=sz:=by
        have:=congrArg List.length hys
        rw [List.length_map,hlen] at this
        exact this.symm
       exact xstR hl (by rw [hv,<- hys];exact xcells_ok hy) hn h1 (by omega) hds (hK _ h)
      ·cases h
     ·cases h
    ·cases h
   ·cases h
  ·cases h
 ·rename_i hd off j
  split at h
  ·rename_i t x hl
   split at h
   ·rename_i a ha
    split at h
    ·rename_i c hc
     obtain ⟨hj,h⟩:=F_gd h
     split at h
     ·rename_i l hs
      split at h
      ·rename_i y hp
       obtain ⟨h1,h2⟩:=arSet_ok ha hj hs
       obtain ⟨l1,e1,e2⟩:=pkD_ok hp
       rw [List.append_nil] at e1
       subst e1
       rw [fcL_lvs] at h1 h2
       rw [List.length_map] at h1
       have hds:t.ds y=(t.ds x).set (off + j) (.I a.k c):=by
        have h3:(t.ds y).map AV.D=((t.ds x).set (off + j) (.I a.k c)).map AV.D:=by rw [<- e2,h2,List.map_set]
        exact mapD_inj h3
       have ev:s.er.ev xo=.D (.I a.k c):=by rw [hv];exact intK_ok hc
       exact xstR (vs:=[.I a.k c]) hl (by rw [ev];rfl) rfl h1 h1 (by rw [set_eq h1];exact hds) (hK _ h)
      ·cases h
     ·cases h
    ·cases h
   ·cases h
  ·cases h
 ·cases h

def datL:List XV->Bool
 | []=>true
 | .d _ _ :: l=>datL l
 | .nl _ :: l=>datL l
 | _ :: _=>false
def needF (v a:XV):Bool:=match a with
 | .ept _ _ _ _=>match xcells v with
  | some ys=>!(datL ys)
  | none=>false
 | _=>false
def xstF (s s1:XS) (sz:Nat) (v:XV) (K:XS->Option R) (h:Hd) (t:Ty) (ix off:Nat):Option R:=match s1.lk h with
 | some (.row true t' xs)=>match t'.beq t,xcells v with
  | true,some ys=>match Nat.beq (szL ys) sz,(Nat.beq sz 1 || !(Nat.beq t'.n 1)) with
   | true,true=>gn? xs ix fun e=>match updL (lvs t' e) off ys sz with
    | some l=>pkC s t' l fun y rest=>match rest with
     | []=>K (s1.setBlk h (some (.row true t' (xs.set ix y))))
     | _ :: _=>none
    | none=>none
   | _,_=>none
  | _,_=>none
 | _=>none
def xstoreF (s:XS) (sz:Nat) (v:XV) (K:XS->Option R):XV->Option R
 | .ept h t ix off=>xstF s (s.put none .un [] (xfz s v.hr)) sz v K h t ix off
 | _=>none
theorem conv_cells {lk:Look} {φ:Hd->Option Hd} {a:AV} {cs:List AV} {ds:List DV} (h:a.cells?=some cs) (hc:AV.convL lk φ cs=ds.map .D) (ho:AV.allOne (ds.map .D)=true):(AV.conv lk φ a).cells?=some (ds.map .D):=by
 have key:∀ a:AV,(∀ l,a ≠ .agg l)->a.cells?=some cs->(AV.conv lk φ a).cells?=some (ds.map .D):=fun a hn h=>by
  have h1:cs=[a]:=by
   unfold AV.cells? at h
   split at h
   ·exact absurd rfl (hn _)
   ·split at h
    ·cases h;rfl
    ·cases h
  subst h1
  have hc:[AV.conv lk φ a]=ds.map .D:=hc
  cases ds with
  | nil=>cases hc
  | cons d ds =>
   cases ds with
   | cons _ _=>exact absurd (congrArg List.length hc) (by simp)
   | nil =>
    have hc:AV.conv lk φ a=.D d:=(List.cons.inj hc).1
    rw [hc]
    have ho:(AV.one (.D d) && true)=true:=ho
    rw [Bool.and_true] at ho
    show (if AV.one (.D d)=true then some [AV.D d] else none)=_
    rw [if_pos ho];rfl
 cases a with
 | agg l =>
  have h:(if AV.allOne l=true then some l else none)=some cs:=h
  split at h
  ·have e:l=cs:=Option.some.inj h
   rw [<- e] at hc
   show (if AV.allOne (AV.convL lk φ l)=true then some (AV.convL lk φ l) else none)=_
   rw [hc,if_pos ho]
  ·cases h
 | _=>exact key _ (fun _=>AV.noConfusion) h
theorem convL_length (lk:Look) (φ:Hd->Option Hd):∀ l:List AV,(AV.convL lk φ l).length=l.length
 | []=>rfl
 | x :: l=>by show (AV.convL lk φ l).length + 1=_;rw [convL_length lk φ l];rfl
theorem xstoreF_ok [YL] {s:XS} {sz:Nat} {xo:Operand} {v a:XV} {K:XS->Option R} {r:R} (hv:s.er.ev xo=v.er) (h:xstoreF s sz v K a=some r) {KP:AState->Prop} (hK:∀ s',K s'=some r->KP s'.er) :
  astore (s.er.put none AV.un [] (fzL s.er.lk (AV.rows (s.er.ev xo)))) sz (AV.conv s.er.lk (fun _=>none) (s.er.ev xo)) KP a.er:=by
 unfold xstoreF at h
 split at h
 ·rename_i hd t ix off
  have hs1:s.er.put none AV.un [] (fzL s.er.lk (AV.rows (s.er.ev xo)))=(s.put none .un [] (xfz s v.hr)).er:=by
   rw [er_put,hv,hr_er,xfz_ok];rfl
  rw [hs1,hv]
  revert h
  generalize s.put none .un [] (xfz s v.hr)=s1
  intro h
  unfold xstF at h
  split at h
  ·rename_i t' xs hl
   split at h
   ·rename_i ys hb hy
    obtain rfl:=Ty.eq_of hb
    split at h
    ·rename_i hb1 hb2
     replace h:=F_gn h
     obtain ⟨e,he,h⟩:=h
     split at h
     ·rename_i l hu
      obtain ⟨y,l1,l2,rfl,h,ec⟩:=pkCG (φ:=fun _=>none) (fun _ _ _=>rfl) h
      split at h
      ·obtain ⟨h1,h2⟩:=updL_ok hu
       rw [List.append_nil] at h2
       rw [fcL_lvs] at h1 h2
       rw [List.length_map] at h1
       have hsz:=Nat.eq_of_beq_eq_true hb1
       have hlen:(XV.fcL ys).length=sz:=by rw [szL_ok];exact hsz
       have hC:((t'.ds e).take off).map AV.D ++ AV.convL s.er.lk (fun _=>none) (XV.fcL ys) ++ ((t'.ds e).drop (off + sz)).map AV.D=(t'.ds y).map .D:=by
        rw [<- ec,h2,convL_app,convL_app,<- List.map_take,<- List.map_drop,convL_D,convL_D]
       have hcl:(AV.convL s.er.lk (fun _=>none) (XV.fcL ys)).length=sz:=by rw [convL_length,hlen]
       have hys:AV.convL s.er.lk (fun _=>none) (XV.fcL ys)=(((t'.ds y).drop off).take sz).map .D:=by
        rw [List.map_take,List.map_drop,<- hC,List.append_assoc,List.drop_append_of_le_length (by rw [List.length_map,List.length_take];omega),List.drop_eq_nil_of_le (by rw [List.length_map,List.length_take];omega),List.nil_append,List.take_append_of_le_length (by omega),List.take_of_length_le (by omega)]
       have hds:t'.ds y=(t'.ds e).take off ++ ((t'.ds y).drop off).take sz ++ (t'.ds e).drop (off + sz):=by
        have h3:(t'.ds y).map AV.D=((t'.ds e).take off ++ ((t'.ds y).drop off).take sz ++ (t'.ds e).drop (off + sz)).map AV.D:=by
         rw [List.map_append,List.map_append,<- hys,hC]
        have:=congrArg AV.data h3
        rwa [dataX,dataX,Option.some.injEq] at this
       have hone:AV.allOne ((((t'.ds y).drop off).take sz).map .D)=true:=by
        have h4:=ds_noC t' y
        have h6:(t'.ds y).map AV.D=((t'.ds e).take off).map AV.D ++ (((t'.ds y).drop off).take sz).map AV.D ++ ((t'.ds e).drop (off + sz)).map AV.D:=by rw [<- List.map_append,<- List.map_append,<- hds]
        rw [h6,allOneX,allOneX,Bool.and_eq_true,Bool.and_eq_true] at h4
        exact h4.1.2
       refine .inl ⟨?_,xs.map t'.ds,t'.ds e,(((t'.ds y).drop off).take sz).map .D,((t'.ds y).drop off).take sz,by rw [lk_er,hl];rfl,by rw [List.getElem?_map,he];rfl,conv_cells (xcells_ok hy) hys hone,dataX _,?_,h1,?_⟩
       ·rw [Bool.or_eq_true] at hb2
        rcases hb2 with hb2 | hb2
        ·exact .inr (Nat.eq_of_beq_eq_true hb2)
        ·exact .inl fun e=>by rw [e] at hb2;cases hb2
       ·have:=congrArg List.length hys
        rw [List.length_map,hcl] at this
        exact this.symm
       ·have:=hK _ h
        rw [er_setBlk hl] at this
        rw [<- hds]
        have e3:(xs.map t'.ds).set ix (t'.ds y)=(xs.set ix y).map t'.ds:=by rw [List.map_set]
        rw [e3];exact this
      ·cases h
     ·cases h
    ·cases h
   ·cases h
  ·cases h
 ·cases h
end Go.Eng

namespace Go.Eng
open Go.RowKit
variable {R:Type}

def xelems (s:XS) (t:Ty) (v:XV) (K:List t.T->Option R):Option R:=match v with
 | .d .s b=>match (Ty.sl (.i .u8)).cst (.sl t) (intsS b) with
  | some y=>K y
  | none=>none
 | v=>asLeaf s (.sl t) v K
theorem xelems_ok [YL] {s:XS} {t:Ty} {v:XV} {K:List t.T->Option R} {r:R} (h:xelems s t v K=some r):∃ xs:List t.T,K xs=some r/\AV.content s.er.lk v.er=some (xs.map t.ds):=by
 unfold xelems at h
 split at h
 ·rename_i b
  split at h
  ·rename_i y hy
   obtain ⟨e,rfl⟩:=Ty.cst_ok hy
   cases e
   refine ⟨_,h,?_⟩
   show some (b.map fun c=>[DV.I .u8 c.toNat])=_
   simp only [intsS,List.map_map]
   rfl
  ·cases h
 ·obtain ⟨xs,h,h1,_⟩:=asLeaf_cont h
  exact ⟨xs,h,h1⟩
def xappF (s:XS) (t:Ty) (xs:List t.T) (k bytes:Nat) (y:XV) (K:XV->List XB->List Hd->Option R):Option R:=match Nat.beq t.n k with
 | true=>xelems s t y fun ys=>match xs,ys with
  | [],ys=>gd? (ys.length * bytes <= 140737488355328) (K (.slw (.O s.own.length) t ys.length) [.row true t ys] (xfz s y.hr))
  | xs,y0 :: yr=>gd? ((xs.length + (y0 :: yr).length) * bytes <= 140737488355328) (K (.slw (.O s.own.length) t (xs ++ y0 :: yr).length) [.row true t (xs ++ y0 :: yr)] (xfz s y.hr))
  | _,_=>none
 | false=>none
def xappend (s:XS) (ty:Option Ty) (k bytes:Nat) (y:XV) (dst:Option Nat) (K:XS->Option R):XV->Option R
 | .slw h t len=>match s.lk h with
  | some (.row mt t' xs)=>match t'.beq t,Nat.beq t'.n k with
   | true,true=>gl? len xs (xelems s t' y fun ys=>gd? ((xs.length + ys.length) * bytes <= 140737488355328) (K ((s.setBlk h none).put dst (.slw (.O s.own.length) t' (xs ++ ys).length) [.row mt t' (xs ++ ys)] [])))
   | _,_=>none
  | _=>none
 | .fln _=>match elT ty,dst with
  | some t,some d=>match Nat.beq t.n k with
   | true=>xelems s t y fun ys=>gd? (ys.length * bytes <= 140737488355328) (K (s.put (some d) (.slw (.O s.own.length) t ys.length) [.row true t ys] (xfz s y.hr)))
   | false=>none
  | _,_=>none
 | .fl t xs=>match Nat.beq t.n k,dst with
  | true,some d=>xelems s t y fun ys=>match ys with
   | []=>none
   | y0 :: yr=>gd? ((xs.length + (y0 :: yr).length) * bytes <= 140737488355328) (K (s.put (some d) (.slw (.O s.own.length) t (xs ++ y0 :: yr).length) [.row true t (xs ++ y0 :: yr)] (xfz s y.hr)))
  | _,_=>none
 | _=>none
theorem xappend_ok [YL] {s:XS} {ty:Option Ty} {k bytes:Nat} {yo:Operand} {y a:XV} {dst:Option Nat} {K:XS->Option R} {r:R} (hy:s.er.ev yo=y.er) (h:xappend s ty k bytes y dst K a=some r) {KP:AState->Prop} (hK:∀ s',K s'=some r->KP s'.er):aappend s.er k bytes yo dst KP a.er:=by
 unfold xappend at h
 split at h
 ·rename_i hd t len
  split at h
  ·rename_i mt t' xs hl
   split at h
   ·rename_i hb hb2
    obtain rfl:=Ty.eq_of hb
    have hk:=Nat.eq_of_beq_eq_true hb2
    replace h:=F_gl h
    obtain ⟨rfl,h⟩:=h
    obtain ⟨ys,h,hc⟩:=xelems_ok h
    obtain ⟨hsz,h⟩:=F_gd h
    refine ⟨hk,rfl,mt,xs.map t'.ds,ys.map t'.ds,by rw [lk_er,hl,<- hk];rfl,by rw [List.length_map],by rw [hy];exact hc,hk ▸ uni_T t' xs,hk ▸ uni_T t' ys,one_T t' ys,by rw [List.length_map];exact hsz,?_⟩
    have:=hK _ h
    rw [er_put,er_setBlk hl] at this
    have e:(XV.slw (.O s.own.length) t' (xs ++ ys).length).er=.sl (.O s.own.length) k 0 (xs.length + (ys.map t'.ds).length):=by
     show AV.sl (.O s.own.length) t'.n 0 (xs ++ ys).length=_
     rw [hk,List.length_append,List.length_map]
    rw [e] at this
    have e2:([XB.row mt t' (xs ++ ys)].map XB.er)=[Blk.row mt k (xs.map t'.ds ++ ys.map t'.ds)]:=by
     show [Blk.row mt t'.n ((xs ++ ys).map t'.ds)]=_
     rw [hk,List.map_append]
    rw [e2] at this
    exact this
   ·cases h
  ·cases h
 ·split at h
  ·rename_i t d _
   split at h
   ·rename_i hb
    have hk:=Nat.eq_of_beq_eq_true hb
    obtain ⟨ys,h,hc⟩:=xelems_ok h
    obtain ⟨hsz,h⟩:=F_gd h
    refine ⟨rfl,ys.map t.ds,by rw [hy];exact hc,hk ▸ uni_T t ys,by rw [List.length_map];exact hsz,?_⟩
    have:=hK _ h
    rw [er_put] at this
    have e:(XV.slw (.O s.own.length) t ys.length).er=.sl (.O s.own.length) k 0 (ys.map t.ds).length:=by
     show AV.sl (.O s.own.length) t.n 0 ys.length=_
     rw [hk,List.length_map]
    rw [e] at this
    have e2:([XB.row true t ys].map XB.er)=[Blk.row true k (ys.map t.ds)]:=by
     show [Blk.row true t.n (ys.map t.ds)]=_
     rw [hk]
    rw [e2] at this
    rw [hy,hr_er,xfz_ok]
    exact this
   ·cases h
  ·cases h
 ·rename_i t xs
  split at h
  ·rename_i d hb
   have hk:=Nat.eq_of_beq_eq_true hb
   obtain ⟨ys,h,hc⟩:=xelems_ok h
   split at h
   ·cases h
   ·rename_i y0 yr
    obtain ⟨hsz,h⟩:=F_gd h
    have:=hK _ h
    rw [er_put] at this
    have e2:([XB.row true t (xs ++ y0 :: yr)].map XB.er)=[Blk.row true k (xs.map t.ds ++ (y0 :: yr).map t.ds)]:=by
     show [Blk.row true t.n ((xs ++ y0 :: yr).map t.ds)]=_
     rw [hk,List.map_append]
    have e:(XV.slw (.O s.own.length) t (xs ++ y0 :: yr).length).er=.sl (.O s.own.length) k 0 (xs.length + (y0 :: yr).length):=by
     show AV.sl (.O s.own.length) t.n 0 (xs ++ y0 :: yr).length=_
     rw [hk,List.length_append]
    rw [e,e2,show s.own.length=s.er.nx from rfl] at this
    cases xs with
    | nil =>
     refine ⟨rfl,(y0 :: yr).map t.ds,by rw [hy];exact hc,hk ▸ uni_T t _,by rw [List.length_map];simpa using hsz,?_⟩
     rw [hy,hr_er,xfz_ok,List.length_map]
     simpa using this
    | cons x0 xr =>
     refine ⟨(y0 :: yr).map t.ds,by rw [hy];exact hc,hk ▸ uni_T t (x0 :: xr),hk ▸ uni_T t _,by simpa using hsz,?_⟩
     rw [if_neg (by simp),hy,hr_er,xfz_ok]
     simpa using this
  ·cases h
 ·cases h
def xapp (s:XS) (ty:Option Ty) (k bytes:Nat) (y:XV) (K:XV->List XB->List Hd->Option R):XV->Option R
 | .fln _=>match elT ty with
  | some t=>match Nat.beq t.n k with
   | true=>xelems s t y fun ys=>gd? (ys.length * bytes <= 140737488355328) (K (.slw (.O s.own.length) t ys.length) [.row true t ys] (xfz s y.hr))
   | false=>none
  | none=>none
 | .fl t xs=>match Nat.beq t.n k with
  | true=>xelems s t y fun ys=>match ys with
   | []=>none
   | y0 :: yr=>gd? ((xs.length + (y0 :: yr).length) * bytes <= 140737488355328) (K (.slw (.O s.own.length) t (xs ++ y0 :: yr).length) [.row true t (xs ++ y0 :: yr)] (xfz s y.hr))
  | false=>none
 | _=>none
theorem xapp_ok [YL] {s:XS} {ty:Option Ty} {k bytes:Nat} {yo:Operand} {y a:XV} {K:XV->List XB->List Hd->Option R} {r:R} (hy:s.er.ev yo=y.er) (h:xapp s ty k bytes y K a=some r) {KP:AV->List Blk->List Hd->Prop} (hK:∀ v nbs fz,K v nbs fz=some r->KP v.er (nbs.map XB.er) fz) :
  ∃ es,a.er=.fl es/\∃ ys,AV.content s.er.lk (s.er.ev yo)=some ys/\Uni k es/\Uni k ys/\(es.length + ys.length) * bytes <= 140737488355328 /\
   (if ys=[]/\es ≠ [] then KP (.fl es) [] [] else KP (.sl (.O s.er.nx) k 0 (es.length + ys.length)) [.row true k (es ++ ys)] (fzL s.er.lk (AV.rows (s.er.ev yo)))):=by
 unfold xapp at h
 split at h
 ·split at h
  ·rename_i t _
   split at h
   ·rename_i hb
    have hk:=Nat.eq_of_beq_eq_true hb
    obtain ⟨ys,h,hc⟩:=xelems_ok h
    obtain ⟨hsz,h⟩:=F_gd h
    refine ⟨[],rfl,ys.map t.ds,by rw [hy];exact hc,fun _ h=>(by cases h),hk ▸ uni_T t ys,by rw [List.length_map];simpa using hsz,?_⟩
    rw [if_neg (fun h=>h.2 rfl),hy,hr_er,xfz_ok]
    have:=hK _ _ _ h
    have e:(XV.slw (.O s.own.length) t ys.length).er=.sl (.O s.own.length) k 0 (([]:List (List DV)).length + (ys.map t.ds).length):=by
     show AV.sl (.O s.own.length) t.n 0 ys.length=_
     rw [hk,List.length_map,List.length_nil,Nat.zero_add]
    rw [e] at this
    have e2:([XB.row true t ys].map XB.er)=[Blk.row true k ([] ++ ys.map t.ds)]:=by
     show [Blk.row true t.n (ys.map t.ds)]=_
     rw [hk];rfl
    rw [e2] at this
    exact this
   ·cases h
  ·cases h
 ·rename_i t xs
  split at h
  ·rename_i hb
   have hk:=Nat.eq_of_beq_eq_true hb
   obtain ⟨ys,h,hc⟩:=xelems_ok h
   split at h
   ·cases h
   ·rename_i y0 yr
    obtain ⟨hsz,h⟩:=F_gd h
    refine ⟨xs.map t.ds,rfl,(y0 :: yr).map t.ds,by rw [hy];exact hc,hk ▸ uni_T t xs,hk ▸ uni_T t (y0 :: yr),by rw [List.length_map,List.length_map];exact hsz,?_⟩
    rw [if_neg (fun h=>by cases h.1),hy,hr_er,xfz_ok]
    have:=hK _ _ _ h
    have e:(XV.slw (.O s.own.length) t (xs ++ y0 :: yr).length).er=.sl (.O s.own.length) k 0 ((xs.map t.ds).length + ((y0 :: yr).map t.ds).length):=by
     show AV.sl (.O s.own.length) t.n 0 (xs ++ y0 :: yr).length=_
     rw [hk,List.length_map,List.length_map,List.length_append]
    rw [e] at this
    have e2:([XB.row true t (xs ++ y0 :: yr)].map XB.er)=[Blk.row true k (xs.map t.ds ++ (y0 :: yr).map t.ds)]:=by
     show [Blk.row true t.n ((xs ++ y0 :: yr).map t.ds)]=_
     rw [hk,List.map_append]
    rw [e2] at this
    exact this
  ·cases h
 ·cases h

def cpyL {α:Type} (xs:List α) (off len:Nat) (ys:List α):List α:=xs.take off ++ ys.take (min ys.length len) ++ xs.drop (off + min ys.length len)
def xcopy1 (s:XS) (k:Nat) (vy:XV) (dst:Option Nat) (K:XS->Option R) (h:Hd) (t:Ty) (off len:Nat):Option R:=match s.lk h with
 | some (.row true t' xs)=>match t'.beq t,Nat.beq t'.n k with
  | true,true=>gd? (off + len <= xs.length) (xelems s t' vy fun ys=>K ((s.setBlk h (some (.row true t' (cpyL xs off len ys)))).put dst (.d (.i .i64) (min ys.length len:Nat)) [] []))
  | _,_=>none
 | _=>none
def xcopy (s:XS) (k:Nat) (vy:XV) (dst:Option Nat) (K:XS->Option R):XV->Option R
 | .slw h t len=>xcopy1 s k vy dst K h t 0 len
 | .sl h t off len=>xcopy1 s k vy dst K h t off len
 | .asl h off len=>match s.lk h with
  | some (.arr true n kd x)=>match Nat.beq 1 k with
   | true=>gd? (off + len <= n) (xelems s (.i kd) vy fun ys=>K ((s.setBlk h (some (.arr true n kd (x.put off (ys.take (min ys.length len)))))).put dst (.d (.i .i64) (min ys.length len:Nat)) [] []))
   | false=>none
  | _=>none
 | .rsl h off l len=>match s.lk h with
  | some (.rb true t x)=>match Nat.beq 1 k,arAt (lvs t x) off with
   | true,some a=>gd? (l + len <= a.n) (xelems s (.i a.k) vy fun ys=>match updL (lvs t x) off [.d (.ar a.n a.k) (a.x.put l (ys.take (min ys.length len)))] a.n with
    | some q=>match pkD t q with
     | some (y,[])=>K ((s.setBlk h (some (.rb true t y))).put dst (.d (.i .i64) (min ys.length len:Nat)) [] [])
     | _=>none
    | none=>none)
   | _,_=>none
  | _=>none
 | _=>none
theorem put_part {α:Type} {l p:List α} {off n i:Nat} (h:off + n <= l.length) (hi:i + p.length <= n):l.take off ++ (((l.drop off).take n).take i ++ p ++ ((l.drop off).take n).drop (i + p.length)) ++ l.drop (off + n)=l.take (off + i) ++ p ++ l.drop (off + i + p.length):=by
 have e1:l.take (off + i)=l.take off ++ (l.drop off).take i:=by rw [List.take_add]
 have e2:((l.drop off).take n).take i=(l.drop off).take i:=by rw [List.take_take,Nat.min_eq_left (by omega)]
 have e3:l.drop (off + i + p.length)=((l.drop off).take n).drop (i + p.length) ++ l.drop (off + n):=by
  have h1:l.drop (off + i + p.length)=(l.drop off).drop (i + p.length):=by rw [List.drop_drop,Nat.add_assoc]
  have h2:l.drop (off + n)=(l.drop off).drop n:=by rw [List.drop_drop]
  rw [h1,h2]
  have h3:l.drop off=(l.drop off).take n ++ (l.drop off).drop n:=(List.take_append_drop _ _).symm
  have h4:((l.drop off).take n).length=n:=by rw [List.length_take,List.length_drop];omega
  conv=>lhs;rw [h3]
  rw [List.drop_append_of_le_length (by omega)]
 rw [e1,e2,e3]
 simp only [List.append_assoc]
theorem xcopy1_ok [YL] {s:XS} {k:Nat} {yo:Operand} {vy:XV} {dst:Option Nat} {K:XS->Option R} {r:R} {hd:Hd} {t:Ty} {off len:Nat} (hy:s.er.ev yo=vy.er) (h:xcopy1 s k vy dst K hd t off len=some r) {KP:AState->Prop} (hK:∀ s',K s'=some r->KP s'.er):acopy s.er k yo dst KP (.sl hd t.n off len):=by
 unfold xcopy1 at h
 split at h
 ·rename_i t' xs hl
  split at h
  ·rename_i hb hb2
   obtain rfl:=Ty.eq_of hb
   have hk:=Nat.eq_of_beq_eq_true hb2
   obtain ⟨h1,h⟩:=F_gd h
   obtain ⟨ys,h,hc⟩:=xelems_ok h
   refine ⟨hk,xs.map t'.ds,ys.map t'.ds,by rw [lk_er,hl,<- hk];rfl,by rw [List.length_map];exact h1,by rw [hy];exact hc,hk ▸ uni_T t' ys,by rw [<- List.map_take];exact one_T t' _,?_⟩
   have:=hK _ h
   rw [er_put,er_setBlk hl] at this
   have e:(some (XB.row true t' (cpyL xs off len ys))).map XB.er=some (.row true k ((xs.map t'.ds).take off ++ (ys.map t'.ds).take (min (ys.map t'.ds).length len) ++ (xs.map t'.ds).drop (off + min (ys.map t'.ds).length len))):=by
    show some (Blk.row true t'.n ((cpyL xs off len ys).map t'.ds))=_
    unfold cpyL
    rw [hk,List.map_append,List.map_append,List.map_take,List.map_take,List.map_drop,List.length_map]
   rw [e] at this
   have e2:(XV.d (.i .i64) ((min ys.length len:Nat):Int)).er=.D (.I .i64 (min (ys.map t'.ds).length len:Nat)):=by rw [List.length_map];rfl
   rw [e2] at this
   exact this
  ·cases h
 ·cases h
theorem xcopy_ok [YL] {s:XS} {k:Nat} {yo:Operand} {vy a:XV} {dst:Option Nat} {K:XS->Option R} {r:R} (hy:s.er.ev yo=vy.er) (h:xcopy s k vy dst K a=some r) {KP:AState->Prop} (hK:∀ s',K s'=some r->KP s'.er):acopy s.er k yo dst KP a.er:=by
 unfold xcopy at h
 split at h
 ·exact xcopy1_ok hy h hK
 ·exact xcopy1_ok hy h hK
 ·rename_i hd off len
  split at h
  ·rename_i n kd x hl
   split at h
   ·rename_i hb
    obtain rfl:=Nat.eq_of_beq_eq_true hb
    obtain ⟨h1,h⟩:=F_gd h
    obtain ⟨ys,h,hc⟩:=xelems_ok h
    refine ⟨rfl,x.l.map (arD kd),ys.map (Ty.i kd).ds,by rw [lk_er,hl];rfl,by rw [List.length_map,x.len];exact h1,by rw [hy];exact hc,uni_T (.i kd) ys,by rw [<- List.map_take];exact one_T (.i kd) _,?_⟩
    have:=hK _ h
    rw [er_put,er_setBlk hl] at this
    have hm:(ys.take (min ys.length len)).length=min ys.length len:=by rw [List.length_take];omega
    have e:(some (XB.arr true n kd (x.put off (ys.take (min ys.length len))))).map XB.er=some (.row true 1 ((x.l.map (arD kd)).take off ++ (ys.map (Ty.i kd).ds).take (min (ys.map (Ty.i kd).ds).length len) ++ (x.l.map (arD kd)).drop (off + min (ys.map (Ty.i kd).ds).length len))):=by
     show some (Blk.row true 1 ((x.put off (ys.take (min ys.length len))).l.map (arD kd)))=_
     rw [Arr.l_put (by rw [hm];omega),List.map_append,List.map_append,hm,List.map_take,List.map_take,List.map_drop,List.length_map]
     rfl
    rw [e] at this
    have e2:(XV.d (.i .i64) ((min ys.length len:Nat):Int)).er=.D (.I .i64 (min (ys.map (Ty.i kd).ds).length len:Nat)):=by rw [List.length_map];rfl
    rw [e2] at this
    exact this
   ·cases h
  ·cases h
 ·rename_i hd off l len
  split at h
  ·rename_i t x hl
   split at h
   ·rename_i a hb ha
    obtain rfl:=Nat.eq_of_beq_eq_true hb
    obtain ⟨h1,h⟩:=F_gd h
    obtain ⟨ys,h,hc⟩:=xelems_ok h
    split at h
    ·rename_i q hu
     split at h
     ·rename_i y hp
      obtain ⟨c1,c2⟩:=updL_ok hu
      obtain ⟨d1,d2⟩:=arAt_ok ha
      obtain ⟨l1,e1,e2⟩:=pkD_ok hp
      rw [List.append_nil] at e1
      subst e1
      have hm:(ys.take (min ys.length len)).length=min ys.length len:=by rw [List.length_take];omega
      have hp1:(((ys.take (min ys.length len)).map (DV.I a.k)).map AV.D).length=min ys.length len:=by rw [List.length_map,List.length_map,hm]
      have e3:XV.fcL [XV.d (.ar a.n a.k) (a.x.put l (ys.take (min ys.length len)))]=((((XV.fcL (lvs t x)).drop off).take a.n).take l ++ ((ys.take (min ys.length len)).map (DV.I a.k)).map .D ++ (((XV.fcL (lvs t x)).drop off).take a.n).drop (l + (((ys.take (min ys.length len)).map (DV.I a.k)).map AV.D).length)):=by
       rw [d1,hp1]
       show (((a.x.put l (ys.take (min ys.length len))).l.map (DV.I a.k)).map AV.D) ++ []=_
       rw [List.append_nil,Arr.l_put (by rw [hm];omega),hm]
       simp only [List.map_append,List.map_take,List.map_drop]
      have e4:=put_part (p:=((ys.take (min ys.length len)).map (DV.I a.k)).map AV.D) d2 (i:=l) (by rw [hp1];omega)
      rw [<- e3,<- c2,hp1,fcL_lvs] at e4
      have e5:t.ds y=(t.ds x).take (off + l) ++ (ys.take (min ys.length len)).map (DV.I a.k) ++ (t.ds x).drop (off + l + min ys.length len):=by
       refine mapD_inj ?_
       rw [<- e2,e4]
       simp only [List.map_append,List.map_take,List.map_drop]
      rw [fcL_lvs,List.length_map] at d2
      refine ⟨rfl,sgD (t.ds x),ys.map (Ty.i a.k).ds,by rw [lk_er,hl];rfl,by rw [sgD_len];omega,by rw [hy];exact hc,uni_T (.i a.k) ys,by rw [<- List.map_take];exact one_T (.i a.k) _,?_⟩
      have:=hK _ h
      rw [er_put,er_setBlk hl] at this
      have e:(some (XB.rb true t y)).map XB.er=some (.row true 1 ((sgD (t.ds x)).take (off + l) ++ (ys.map (Ty.i a.k).ds).take (min (ys.map (Ty.i a.k).ds).length len) ++ (sgD (t.ds x)).drop (off + l + min (ys.map (Ty.i a.k).ds).length len))):=by
       show some (Blk.row true 1 (sgD (t.ds y)))=_
       rw [e5,List.length_map]
       unfold sgD
       simp only [List.map_append,List.map_take,List.map_drop,List.map_map]
       rfl
      rw [e] at this
      have e6:(XV.d (.i .i64) ((min ys.length len:Nat):Int)).er=.D (.I .i64 (min (ys.map (Ty.i a.k).ds).length len:Nat)):=by rw [List.length_map];rfl
      rw [e6] at this
      exact this
     ·cases h
    ·cases h
   ·cases h
  ·cases h
 ·cases h
def xclr1 (s:XS) (k:Nat) (zs:List DV) (dst:Option Nat) (K:XS->Option R) (h:Hd) (t:Ty) (off len:Nat):Option R:=match s.lk h with
 | some (.row true t' xs)=>match t'.beq t,Nat.beq t'.n k,zeq (zs.map .D) ((t'.ds t'.z).map .D) with
  | true,true,true=>gd? (off + len <= xs.length) (K ((s.setBlk h (some (.row true t' (xs.take off ++ List.replicate len t'.z ++ xs.drop (off + len))))).put dst .any [] []))
  | _,_,_=>none
 | _=>none
def xclr (s:XS) (k:Nat) (zs:List DV) (dst:Option Nat) (K:XS->Option R):XV->Option R
 | .slw h t len=>xclr1 s k zs dst K h t 0 len
 | .sl h t off len=>xclr1 s k zs dst K h t off len
 | _=>none
theorem xclr1_ok [YL] {s:XS} {k:Nat} {zs:List DV} {dst:Option Nat} {K:XS->Option R} {r:R} {hd:Hd} {t:Ty} {off len:Nat} (h:xclr1 s k zs dst K hd t off len=some r) {KP:AState->Prop} (hK:∀ s',K s'=some r->KP s'.er):aclear s.er k zs dst KP (.sl hd t.n off len):=by
 unfold xclr1 at h
 split at h
 ·rename_i t' xs hl
  split at h
  ·rename_i hb hb2 hz
   obtain rfl:=Ty.eq_of hb
   have hk:=Nat.eq_of_beq_eq_true hb2
   have hz:=mapD_inj (zeq_ok hz)
   obtain ⟨h1,h⟩:=F_gd h
   refine ⟨hk,xs.map t'.ds,by rw [lk_er,hl,<- hk];rfl,by rw [List.length_map];exact h1,?_⟩
   have:=hK _ h
   rw [er_put,er_setBlk hl] at this
   have e:(some (XB.row true t' (xs.take off ++ List.replicate len t'.z ++ xs.drop (off + len)))).map XB.er=some (.row true k ((xs.map t'.ds).take off ++ List.replicate len zs ++ (xs.map t'.ds).drop (off + len))):=by
    show some (Blk.row true t'.n ((xs.take off ++ List.replicate len t'.z ++ xs.drop (off + len)).map t'.ds))=_
    rw [hk,List.map_append,List.map_append,List.map_replicate,List.map_take,List.map_drop,hz]
   rw [e] at this
   exact this
  ·cases h
 ·cases h
theorem xclr_ok [YL] {s:XS} {k:Nat} {zs:List DV} {a:XV} {dst:Option Nat} {K:XS->Option R} {r:R} (h:xclr s k zs dst K a=some r) {KP:AState->Prop} (hK:∀ s',K s'=some r->KP s'.er):aclear s.er k zs dst KP a.er:=by
 unfold xclr at h
 split at h
 ·exact xclr1_ok h hK
 ·exact xclr1_ok h hK
 ·cases h

def kDel {α:Type} [DecidableEq α]:List α->α->List α
 | [],_=>[]
 | x :: l,y=>if x=y then kDel l y else x :: kDel l y
def asDat (V:Ty):XV->Option V.T
 | .d t x=>t.cst V x
 | .agg cs=>match isLeaf V with
  | true=>none
  | false=>match pkD V cs with
   | some (x,[])=>some x
   | _=>none
 | _=>none
def isO:Ty->Bool
 | .o _=>true
 | _=>false
def holeOk {α:Type} [DecidableEq α] (hole:Option α) (y:α) (K:Option R):Option R:=match hole with
 | none=>K
 | some z=>gd? (z=y) K
def asMv (s:XS) (wr:Bool) (V:Ty) (vz:XV) (K:V.T->Option Hd->Option R):Option R:=match V,K with
 | .o t,K=>match vz with
  | .slw hr t' len=>match s.lk hr with
   | some (.row mt t2 xs)=>match t2.beq t' && (!wr || mt),(Ty.sl t2).cst (.sl t) xs with
    | true,some x=>gl? len xs (K x (some hr))
    | _,_=>none
   | _=>none
  | _=>none
 | V,K=>match asDat V vz with
  | some x=>K x none
  | none=>none
def putMp (s:XS) (h:Hd) (b:XB) (hr:Option Hd) (K:XS->Option R):Option R:=match hr with
 | none=>K (s.setBlk h (some b))
 | some a=>match a.eqb h with
  | true=>none
  | false=>K ((s.setBlk a none).setBlk h (some b))
def xmput2 (s:XS) (h:Hd) (wr:Bool) (K0 V:Ty) (es:List (K0.T × V.T)) (hole:Option K0.T) (y:K0.T) (vz:XV) (K:XS->Option R):Option R :=
 asMv s wr V vz fun x hr=>holeOk hole y (putMp s h (.mp wr K0 V (mSet es y x) none none) hr K)
def xmput (s:XS) (kd:KD) (vy vz:XV) (K:XS->Option R):XV->Option R
 | .mref h=>match s.lk h with
  | some (.mp wr K0 V es hole i)=>match isKey K0 && kdB K0.kd kd && itOk wr i,asKey K0 vy with
   | true,some y=>xmput2 s h wr K0 V es hole y vz K
   | _,_=>none
  | _=>none
 | _=>none
def itDelX {α:Type} [DecidableEq α] (y:α):Option (Hd × Option α × List α)->Option (Hd × Option α × List α)
 | none=>none
 | some (hi,_,rem)=>some (hi,none,kDel rem y)
def xmdel (s:XS) (kd:KD) (vy:XV) (K:XS->Option R):XV->Option R
 | .mref h=>match s.lk h with
  | some (.mp false K0 V es none i)=>match isKey K0 && kdB K0.kd kd,asKey K0 vy with
   | true,some y=>K (s.setBlk h (some (.mp false K0 V (mDel es y) none (itDelX y i))))
   | _,_=>none
  | _=>none
 | _=>none
def xrng (s:XS) (kd:KD) (dst:Option Nat) (K:XS->Option R):XV->Option R
 | .mref h=>match s.lk h with
  | some (.mp wr K0 V es hole i)=>match kdB K0.kd kd && (!wr || (i.isNone && hole.isNone)) with
   | true=>K ((s.setBlk h (some (.mp wr K0 V es hole (some (.O s.own.length,none,es.map (·.1)))))).put dst (.itr h (.O s.own.length)) [.it] [])
   | false=>none
  | _=>none
 | _=>none
def xmtake (s:XS) (kd:KD) (z:AV) (k:Nat) (ok:Bool) (vy:XV) (dst:Option Nat) (K:XS->Option R):XV->Option R
 | .mref h=>match ok,s.lk h with
  | false,some (.mp wr K0 (.o t) es none i)=>match isKey K0 && kdB K0.kd kd && zeq [z] [.D (.L [])] && Nat.beq t.n k && itOk wr i,asKey K0 vy with
   | true,some y=>K ((s.setBlk h (some (.mp wr K0 (.o t) es (some y) i))).put dst (.slw (.O s.own.length) t ((mGet es y).getD []).length) [.row wr t ((mGet es y).getD [])] [])
   | _,_=>none
  | _,_=>none
 | _=>none
def xentT (s:XS) (dst:Option Nat) (K:XS->Option R):XV->Option R
 | .itr h hi=>match s.lk h,s.lk hi with
  | some (.mp true K0 (.o t) es none (some (hi',some cur,rem))),some _=>match isKey K0 && hi.eqb hi' with
   | true=>gd? (¬ cur ∈ rem) <| bd? (mGet es cur) fun v=>K ((s.setBlk h (some (.mp true K0 (.o t) es none (some (hi,none,rem))))).put dst (.tup [xvOf K0 cur,.slw (.O s.own.length) t v.length]) [.row true t v] [])
   | false=>none
  | _,_=>none
 | _=>none
end Go.Eng

namespace Go.Eng
open Go.RowKit
variable {R:Type}

def asgB (vr:Hd->Option Nat) (s:XS):Nat->List (Option XB)->List (Option Hd)->List (Option Hd)
 | _,[],l=>l
 | i,m :: r,l=>asgB vr s (i + 1) r (match hdAt l i,m with
  | some h,some (.box ms)=>match s.lk h with
   | some (.box cs)=>asgL vr ms cs l
   | _=>l
  | _,_=>l)
def allHd:List (Option Hd)->Option (List Hd)
 | []=>some []
 | some h :: r=>match allHd r with
  | some l=>some (h :: l)
  | none=>none
 | none :: _=>none
def nodupH:List Hd->Bool
 | []=>true
 | h :: r=>!(hin h r) && nodupH r
theorem nodupH_ok:∀ {l:List Hd},nodupH l=true->l.Nodup
 | [],_=>List.nodup_nil
 | h :: r,e=>by
  unfold nodupH at e
  rw [Bool.and_eq_true,Bool.not_eq_true'] at e
  exact List.nodup_cons.2 ⟨fun q=>(by rw [hin_iff.2 q] at e;cases e.1),nodupH_ok e.2⟩
def lksX (s:XS):List Hd->List (Option XB)
 | []=>[]
 | h :: r=>s.lk h :: lksX s r
theorem lksX_er [YL] (s:XS):∀ hs:List Hd,erB (lksX s hs)=hs.map s.er.lk
 | []=>rfl
 | h :: r=>by show (s.lk h).map XB.er :: erB (lksX s r)=s.er.lk h :: r.map s.er.lk;rw [lk_er,lksX_er s r]
theorem lksX_get (s:XS):∀ (hs:List Hd) (i:Nat),bget (lksX s hs) i=(hs[i]?).bind s.lk
 | [],_=>by simp [lksX,bget]
 | h :: r,0=>rfl
 | h :: r,i + 1=>by show bget (lksX s r) i=_;rw [lksX_get s r i];simp
def okH (s:XS):List Hd->Bool
 | []=>true
 | h :: r=>(match s.lk h with
  | some .it=>false
  | some _=>true
  | none=>false) && okH s r
theorem okH_ok [YL] {s:XS}:∀ {hs:List Hd},okH s hs=true->∀ h ∈ hs,∃ b,s.lk h=some b/\b.er.isIt=false
 | [],_,_,h=>by cases h
 | x :: r,e,h,hh=>by
  unfold okH at e
  rw [Bool.and_eq_true] at e
  rcases List.mem_cons.1 hh with rfl | hh
  ·have e:=e.1
   split at e
   ·cases e
   ·rename_i b hn hl
    refine ⟨b,hl,?_⟩
    cases b with
    | it=>exact (hn rfl).elim
    | _=>rfl
   ·cases e
  ·exact okH_ok e.2 h hh
def XB.hr:XB->List Hd
 | .box cs=>XV.hrL cs
 | _=>[]
theorem hrB_er [YL] (b:XB):b.er.rows=b.hr:=by
 cases b with
 | box cs=>exact hr_fcL cs
 | _=>rfl
def boxRowsX (s:XS):List Hd->List Hd
 | []=>[]
 | h :: r=>(match s.lk h with
  | some b=>b.hr
  | none=>[]) ++ boxRowsX s r
theorem boxRowsX_ok [YL] (s:XS):∀ hs:List Hd,boxRows s.er.lk hs=boxRowsX s hs
 | []=>rfl
 | h :: r=>by
  unfold boxRows boxRowsX
  rw [boxRowsX_ok s r,lk_er]
  cases s.lk h with
  | none=>rfl
  | some b=>exact congrArg (· ++ _) (hrB_er b)
def notIn (hs:List Hd):List Hd->List Hd
 | []=>[]
 | h :: r=>match hin h hs with
  | true=>notIn hs r
  | false=>h :: notIn hs r
theorem notIn_ok (hs:List Hd):∀ l:List Hd,l.filter (fun h=>decide (h ∉ hs))=notIn hs l
 | []=>rfl
 | h :: r=>by
  rw [List.filter_cons]
  unfold notIn
  cases hq:hin h hs with
  | true=>rw [if_neg (by simp [hin_iff.1 hq])];exact notIn_ok hs r
  | false=>rw [if_pos (by simp only [decide_eq_true_eq];exact fun q=>by rw [hin_iff.2 q] at hq;cases hq),notIn_ok hs r]
def setBlksX (ψ:Hd->Hd):List Hd->List (Option XB)->XS->XS
 | h :: hs,b :: bs,s=>setBlksX ψ hs bs (s.setBlk h (match b with
  | some b=>some (b.ren ψ)
  | none=>none))
 | _,_,s=>s
def inR (s:XS):Hd->Prop
 | .B i=>i < s.bs.length
 | .O i=>i < s.own.length
theorem inR_of {s:XS} {h:Hd} {b:XB} (hl:s.lk h=some b):inR s h:=by
 cases h with
 | B i=>exact bget_lt (l:=s.bs) hl
 | O i=>exact bget_lt (l:=s.own) hl
theorem er_setBlkR [YL] {s:XS} {h:Hd} (hl:inR s h) (b:Option XB):(s.setBlk h b).er=s.er.setBlk h (b.map XB.er):=by
 cases h with
 | B i =>
  refine AState.ext' (fun _=>rfl) (fun j=>?_) (fun _=>rfl) rfl
  show (bget (bput s.bs i b) j).map XB.er=if j=i then b.map XB.er else (bget s.bs j).map XB.er
  rw [bput_get _ _ _ _ hl];split <;> rfl
 | O i =>
  refine AState.ext' (fun _=>rfl) (fun _=>rfl) (fun j=>?_) (bput_len _ _ _)
  show (bget (bput s.own i b) j).map XB.er=if j=i then b.map XB.er else (bget s.own j).map XB.er
  rw [bput_get _ _ _ _ hl];split <;> rfl
theorem inR_set {s:XS} {h h':Hd} (hl:inR s h') (b:Option XB):inR (s.setBlk h b) h':=by
 cases h with
 | B i=>cases h' with
  | B j=>show j < (bput s.bs i b).length;rw [bput_len];exact hl
  | O j=>exact hl
 | O i=>cases h' with
  | B j=>exact hl
  | O j=>show j < (bput s.own i b).length;rw [bput_len];exact hl
theorem setBlksX_ok [YL] (ψ:Hd->Hd):∀ (hs:List Hd) (bs:List (Option XB)) (s:XS),(∀ h ∈ hs,inR s h)->(setBlksX ψ hs bs s).er=setBlks s.er ψ hs (erB bs)
 | [],bs,s,_=>by unfold setBlksX setBlks;rfl
 | h :: hs,[],s,_=>by unfold setBlksX setBlks;rfl
 | h :: hs,b :: bs,s,hr=>by
  have h1:=hr h List.mem_cons_self
  show (setBlksX ψ hs bs (s.setBlk h _)).er=setBlks (s.er.setBlk h ((b.map XB.er).map (Blk.ren ψ))) ψ hs (erB bs)
  rw [setBlksX_ok ψ hs bs _ (fun x hx=>inR_set (hr x (List.mem_cons_of_mem _ hx)) _),er_setBlkR h1]
  cases b with
  | none=>rfl
  | some b =>
   show setBlks (s.er.setBlk h (some (b.ren ψ).er)) ψ hs (erB bs)=_
   rw [renB_er];rfl
def afterX (s:XS) (hs:List Hd) (vs:List XV) (dst:Option Nat) (o:XS) (bl:List XB):XS :=
 (setBlksX (backHd hs s.own.length) hs o.bs (s.put none .un [] (notIn hs (xfz s (XV.hrL vs ++ boxRowsX s hs))))).put dst ((XV.val o.env).ren (backHd hs s.own.length)) (bl.map (XB.ren (backHd hs s.own.length))) []
theorem put_inR {s:XS} {h:Hd} (hl:inR s h) (fz:List Hd):inR (s.put none .un [] fz) h:=by
 cases h with
 | B i =>
  show i < (match fz with | []=>s.bs | fz=>frzX .B fz 0 s.bs).length
  cases fz with
  | nil=>exact hl
  | cons x r=>show i < (frzX .B (x :: r) 0 s.bs).length;rw [frzX_len];exact hl
 | O i =>
  show i < ((match fz with | []=>s.own | fz=>frzX .O fz 0 s.own) ++ ([]:List XB).map some).length
  rw [List.length_append]
  cases fz with
  | nil=>exact Nat.lt_of_lt_of_le hl (Nat.le_add_right _ _)
  | cons x r =>
   show i < (frzX .O (x :: r) 0 s.own).length + _
   rw [frzX_len];exact Nat.lt_of_lt_of_le hl (Nat.le_add_right _ _)
theorem afterX_ok [YL] {s:XS} {hs:List Hd} (hr:∀ h ∈ hs,inR s h) (vs:List XV) (dst:Option Nat) (o:XS) (bl:List XB):(afterX s hs vs dst o bl).er=afterE s.er hs (XV.erL vs) dst (XV.val o.env).er (erB o.bs) (bl.map XB.er):=by
 have e:fzE s.er.lk hs (XV.erL vs)=notIn hs (xfz s (XV.hrL vs ++ boxRowsX s hs)):=by
  unfold fzE
  rw [notIn_ok,hr_erL,boxRowsX_ok,xfz_ok]
 unfold afterX afterE
 rw [er_put,setBlksX_ok _ _ _ _ (fun h hh=>put_inR (hr h hh) _),er_put,ren_er,renBL,e]
 rfl
def xcallE2 (s:XS) (hs:List Hd) (vs:List XV) (dst:Option Nat) (K:XS->Option R) (o:XS):Option R:=match Nat.beq o.bs.length hs.length,someL o.own,o.pv with
 | true,some bl,none=>K (afterX s hs vs dst o bl)
 | _,_,_=>none
def xcallE1 (s:XS) (g:Sig) (vs:List XV) (dst:Option Nat) (K:XS->Option R) (hs:List Hd):Option R:=match nodupH hs && hsOk s.own.length hs && okH s hs && keysOk 0 g.ent.env vs,g.ent.own with
 | true,[]=>rdK s (phiH hs) g.ent (xvAt vs) (lksX s hs) [] fun v=>bd? (apF g.ent.tys g.F v) fun r=>xout g.out r (xcallE2 s hs vs dst K)
 | _,_=>none
def xcallE (T:List Sig) (s:XS) (vs:List XV) (dst:Option Nat) (K:XS->Option R):XV->Option R
 | .clo fn caps=>match sget T fn (vs ++ caps) with
  | some g=>match allHd (asgB vrB s 0 g.ent.bs (asgE vrB (xvAt (vs ++ caps)) g.ent.env (nones g.ent.bs))) with
   | some hs=>xcallE1 s g (vs ++ caps) dst K hs
   | none=>none
  | none=>none
 | _=>none
theorem phiH_cond {s:XS} {hs:List Hd}:∀ h h' b,phiH hs h=some h'->s.lk h=some b->match h' with | .B i=>bget (lksX s hs) i=some b | .O i=>bget [] i=some b:=fun h h' b e hl=>by
 have e:(idxH h hs 0).map Hd.B=some h':=e
 rw [Option.map_eq_some_iff] at e
 obtain ⟨i,hi,rfl⟩:=e
 obtain ⟨_,h2⟩:=idxH_spec hi
 show bget (lksX s hs) i=some b
 rw [lksX_get,show hs[i]?=some h from h2];exact hl
theorem xcallE1_ok [YL] {s:XS} {g:Sig} {vs:List XV} {dst:Option Nat} {K:XS->Option R} {r:R} {hds:List Hd} (h:xcallE1 s g vs dst K hds=some r) :
  ∃ v rr bl,apF g.ent.tys g.F v=some rr/\(bl.map XB.er).map some=erB (outS g.out rr).own/\(outS g.out rr).pv=none/\(g.ent.fill v).env.map (fun p=>p.2.er)=AV.convL s.er.lk (phiH hds) (XV.erL vs)/\handed s.er.lk hds=erB (g.ent.fill v).bs /\
   hds.Nodup/\hsOk s.er.nx hds=true/\(∀ h ∈ hds,(s.er.lk h).isSome=true)/\(∀ h ∈ hds,(s.er.lk h).any Blk.isIt=false)/\(erB (outS g.out rr).bs).length=hds.length /\
   K (afterX s hds vs dst (outS g.out rr) bl)=some r/\(afterX s hds vs dst (outS g.out rr) bl).er=afterE s.er hds (XV.erL vs) dst (XV.val (outS g.out rr).env).er (erB (outS g.out rr).bs) (bl.map XB.er):=by
 unfold xcallE1 at h
 split at h
 case h_2=>cases h
 rename_i hb ho
 rw [Bool.and_eq_true,Bool.and_eq_true,Bool.and_eq_true] at hb
 obtain ⟨⟨⟨b1,b2⟩,b3⟩,b4⟩:=hb
 obtain ⟨v,h,e1,e2,_⟩:=rdK_ok phiH_cond h
 obtain ⟨rr,hr,h⟩:=F_bd h
 have h:=xout_ok h
 unfold xcallE2 at h
 split at h
 case h_2=>cases h
 rename_i bl hlen hbl hpv
 have hlen:=Nat.eq_of_beq_eq_true hlen
 have hargs:(g.ent.fill v).env.map (fun p=>p.2.er)=AV.convL s.er.lk (phiH hds) (XV.erL vs):=by
  have:=congrArg (fun l=>l.map (fun p:Nat × AV=>p.2)) e1
  simp only [List.map_map] at this
  rw [convL_eq,<- keysOk_ok (f:=fun v=>AV.conv s.er.lk (phiH hds) v.er) b4 (ev:=xvAt vs) fun i _=>by rw [Nat.zero_add]]
  exact this
 have hh:handed s.er.lk hds=erB (g.ent.fill v).bs:=by
  rw [e2,lksX_er,List.map_map];rfl
 have hlive:=okH_ok b3
 refine ⟨v,rr,bl,hr,someL_ok hbl,hpv,hargs,hh,nodupH_ok b1,b2,fun x hx=>?_,fun x hx=>?_,?_,h,?_⟩
 ·obtain ⟨b,q,_⟩:=hlive x hx
  rw [lk_er,q];rfl
 ·obtain ⟨b,q,q2⟩:=hlive x hx
  rw [lk_er,q];exact q2
 ·show (List.map _ _).length=_
  rw [List.length_map];exact hlen
 ·rw [afterX_ok (fun x hx=>by obtain ⟨b,q,_⟩:=hlive x hx;exact inR_of q)]
theorem xcallE_ok [YL] {P:Program} {T:List Sig} (hT:TblOk P T) {s:XS} {vs:List XV} {dst:Option Nat} {K:XS->Option R} {r:R} {vf:XV} (h:xcallE T s vs dst K vf=some r) {KP:AState->Prop} (hK:∀ s',K s'=some r->KP s'.er):acallE P s.er dst KP (XV.erL vs) vf.er:=by
 unfold xcallE at h
 split at h
 case h_2=>cases h
 rename_i fn caps
 split at h
 case h_2=>cases h
 rename_i g hg
 obtain ⟨hs,hfn⟩:=sget_ok hT hg
 split at h
 case h_2=>cases h
 rename_i hds _
 obtain ⟨v,rr,bl,hr,hbl,hpv,hargs,hh,c1,c2,c3,c4,c5,hk,he⟩:=xcallE1_ok h
 have hcall:=hs v rr hr (bl.map XB.er) hbl
 unfold OutOk at hcall
 rw [hpv] at hcall
 rw [hargs,hfn,<- hh,erL_app] at hcall
 refine ⟨hds,_,_,_,c1,c2,c3,c4,c5,hcall,?_⟩
 have:=hK _ hk
 rw [he,erL_app] at this
 exact this

structure XRO where
 ro:RO
 ty:Option Ty
def xsstep (T:List Sig) (s:XS) (o:XRO) (K:XS->Option R):Option R :=
 match o.ro.op with
 | .store sz a x=>w1 s a fun va=>w1 s x fun vx=>match needF vx va with
  | true=>xstoreF s sz vx K va
  | false=>xstore s sz vx K va
 | .appE k bytes x y=>w1 s x fun vx=>w1 s y fun vy=>xappend s o.ty k bytes vy o.ro.dst K vx
 | .app k bytes x y=>w1 s x fun vx=>w1 s y fun vy=>xapp s o.ty k bytes vy (fun v nbs fz=>K (s.put o.ro.dst v nbs fz)) vx
 | .callE f args=>w1 s f fun vf=>wL s args fun vs=>xcallE T s vs o.ro.dst K vf
 | .clr k zs x=>w1 s x (xclr s k zs o.ro.dst K)
 | .cpy k x y=>w1 s x fun vx=>w1 s y fun vy=>xcopy s k vy o.ro.dst K vx
 | .mtake kd z k ok x y=>none
 | .mput kd x y z=>none
 | .mdel kd x y=>none
 | .rng kd x=>none
 | .entT x=>none
 | op=>xp T s o.ty op fun v nbs fz=>K (s.put o.ro.dst v nbs fz)
theorem xsstep_ok [YL] {P:Program} {T:List Sig} (hT:TblOk P T) {s:XS} {o:XRO} {K:XS->Option R} {r:R} (h:xsstep T s o K=some r) {KP:AState->Prop} (hK:∀ s',K s'=some r->KP s'.er):sstep P s.er o.ro KP:=by
 have hput:∀ v nbs fz,K (s.put o.ro.dst v nbs fz)=some r->KP (s.er.put o.ro.dst v.er (nbs.map XB.er) fz):=fun v nbs fz h=>by rw [<- er_put];exact hK _ h
 unfold xsstep at h
 unfold sstep
 split at h
 ·rename_i sz a x e
  obtain ⟨h,e1⟩:=w1_ok h
  obtain ⟨h,e2⟩:=w1_ok h
  rw [e]
  show astore s.er sz (s.er.ev x) KP (s.er.ev a)\/astore (s.er.put none .un [] (fzL s.er.lk (AV.rows (s.er.ev x)))) sz (AV.conv s.er.lk (fun _=>none) (s.er.ev x)) KP (s.er.ev a)
  split at h
  ·right;rw [e1];exact xstoreF_ok e2 h hK
  ·left;rw [e1];exact xstore_ok e2 h hK
 ·rename_i k bytes x y e
  obtain ⟨h,e1⟩:=w1_ok h
  obtain ⟨h,e2⟩:=w1_ok h
  rw [e]
  show aappend s.er k bytes y o.ro.dst KP (s.er.ev x)
  rw [e1];exact xappend_ok e2 h hK
 ·rename_i k bytes x y e
  obtain ⟨h,e1⟩:=w1_ok h
  obtain ⟨h,e2⟩:=w1_ok h
  rw [e]
  show ∃ es,s.er.ev x=.fl es/\_
  rw [e1];exact xapp_ok e2 h (KP:=fun a nbs fz=>KP (s.er.put o.ro.dst a nbs fz)) hput
 ·rename_i f args e
  obtain ⟨h,e1⟩:=w1_ok h
  obtain ⟨vs,h,e2⟩:=wL_ok h
  rw [e]
  show acallE P s.er o.ro.dst KP (args.map s.er.ev) (s.er.ev f)
  rw [e1,e2];exact xcallE_ok hT h hK
 ·rename_i k zs x e
  obtain ⟨h,e1⟩:=w1_ok h
  rw [e]
  show aclear s.er k zs o.ro.dst KP (s.er.ev x)
  rw [e1];exact xclr_ok h hK
 ·rename_i k x y e
  obtain ⟨h,e1⟩:=w1_ok h
  obtain ⟨h,e2⟩:=w1_ok h
  rw [e]
  show acopy s.er k y o.ro.dst KP (s.er.ev x)
  rw [e1];exact xcopy_ok e2 h hK
 ·cases h
 ·cases h
 ·cases h
 ·cases h
 ·cases h
 ·rename_i n1 n2 n3 n4 n5 n6 n7 n8 n9 n10 n11
  have:=xp_ok hT h (KP:=fun a nbs fz=>KP (s.er.put o.ro.dst a nbs fz)) hput
  split
  ·rename_i e;exact absurd e (n1 _ _ _)
  ·rename_i e;exact absurd e (n2 _ _ _ _)
  ·rename_i e;exact absurd e (n4 _ _)
  ·rename_i e;exact absurd e (n5 _ _ _)
  ·rename_i e;exact absurd e (n6 _ _ _)
  ·rename_i e;exact absurd e (n7 _ _ _ _ _ _)
  ·rename_i e;exact absurd e (n8 _ _ _ _)
  ·rename_i e;exact absurd e (n9 _ _ _)
  ·rename_i e;exact absurd e (n10 _ _)
  ·rename_i e;exact absurd e (n11 _)
  ·exact this
def xguard (s:XS) (t:Nat) (q:Bool):XS:={ s with env:=(t,.d .b q) :: s.env }
theorem xguard_er [YL] {s:XS} {t:Nat} {c q:Bool} (h:eget s.env t=.d .b c) (e:c=q):(xguard s t q).er=s.er:=by
 subst e
 refine AState.ext' (fun i=>?_) (fun _=>rfl) (fun _=>rfl) rfl
 show (if Nat.beq i t=true then XV.d .b c else eget s.env i).er=(eget s.env i).er
 by_cases hi:i=t
 ·rw [if_pos (by rw [Nat.beq_eq];exact hi),hi,h]
 ·rw [if_neg (by rw [Nat.beq_eq];exact hi)]
def xops (T:List Sig):List XRO->XS->(XS->Option R)->Option R
 | [],s,K=>K s
 | o :: r,s,K=>match o.ro.guard with
  | none=>xsstep T s o fun s'=>xops T r s' K
  | some (t,want)=>match eget s.env t with
   | .d .b c=>match want with
    | true=>if? c (xsstep T (xguard s t true) o fun s'=>xops T r s' K) (xops T r ((xguard s t false).put o.ro.dst .un [] []) K)
    | false=>if? c (xops T r ((xguard s t true).put o.ro.dst .un [] []) K) (xsstep T (xguard s t false) o fun s'=>xops T r s' K)
   | .un=>xops T r (s.put o.ro.dst .un [] []) K
   | _=>none
theorem xops_ok [YL] {P:Program} {T:List Sig} (hT:TblOk P T) {r:R}:∀ {os:List XRO} {s:XS} {K:XS->Option R},xops T os s K=some r->∀ {KP:AState->Prop},(∀ s',K s'=some r->KP s'.er)->aops P (os.map XRO.ro) s.er KP
 | [],s,K,h,KP,hK=>hK _ h
 | o :: os,s,K,h,KP,hK=>by
  unfold xops at h
  show aops P (o.ro :: os.map XRO.ro) s.er KP
  unfold aops
  split at h
  ·rename_i hg
   rw [hg]
   exact xsstep_ok hT h fun s' h=>xops_ok hT h hK
  ·rename_i t want hg
   rw [hg]
   split at h
   ·rename_i c hc
    have ht:s.er.env t=.D (.B c):=by show (eget s.env t).er=_;rw [hc];rfl
    show match s.er.env t with
     | .D (.B c)=>(c=want->_)/\(¬ c=want->_)
     | .D (.C (.tuple _))=>_
     | _=>False
    rw [ht]
    split at h
    ·rcases F_if h with ⟨e,h⟩ | ⟨e,h⟩
     ·have:=xsstep_ok hT h (KP:=fun s'=>aops P (os.map XRO.ro) s' KP) fun s' h=>xops_ok hT h hK
      rw [xguard_er hc e] at this
      exact ⟨fun _=>this,fun h=>absurd e h⟩
     ·have:=xops_ok hT h hK
      rw [er_put,xguard_er hc e] at this
      exact ⟨fun h=>Bool.noConfusion (e.symm.trans h),fun _=>this⟩
    ·rcases F_if h with ⟨e,h⟩ | ⟨e,h⟩
     ·have:=xops_ok hT h hK
      rw [er_put,xguard_er hc e] at this
      exact ⟨fun h=>Bool.noConfusion (e.symm.trans h),fun _=>this⟩
     ·have:=xsstep_ok hT h (KP:=fun s'=>aops P (os.map XRO.ro) s' KP) fun s' h=>xops_ok hT h hK
      rw [xguard_er hc e] at this
      exact ⟨fun _=>this,fun h=>absurd e h⟩
   ·rename_i hc
    have ht:s.er.env t=.D (.C undef):=by show (eget s.env t).er=_;rw [hc];rfl
    have:=xops_ok hT h hK
    rw [er_put] at this
    show match s.er.env t with
     | .D (.B c)=>(c=want->_)/\(¬ c=want->_)
     | .D (.C (.tuple _))=>_
     | _=>False
    rw [ht]
    exact this
   ·cases h

def shpE:Option XB->Option XB->Bool
 | some (.arr _ n _ _),some (.arr _ m _ _)=>Nat.beq n m
 | some (.rb _ t _),some (.rb _ t' _)=>t.beq t'
 | _,_=>false
theorem shpE_ok [YL] {b c:Option XB} (h:shpE b c=true):keepB false (b.map XB.er) (c.map XB.er):=by
 unfold shpE at h
 split at h
 ·rename_i mt n k x mt' m k' y
  have h:=Nat.eq_of_beq_eq_true h
  subst h
  show shp (some (Blk.row mt' 1 (y.l.map (arD k'))))=shp (some (Blk.row mt 1 (x.l.map (arD k))))
  unfold shp
  simp only [List.length_map,x.len,y.len]
 ·rename_i mt t x mt' t' y
  obtain rfl:=Ty.eq_of h
  show shp (some (Blk.row mt' 1 (sgD (t.ds y))))=shp (some (Blk.row mt 1 (sgD (t.ds x))))
  unfold shp
  simp only [sgD_len,Ty.ds_len]
 ·cases h
def keepX (s s':XS):List Hd->Bool
 | []=>true
 | h :: r=>shpE (s.lk h) (s'.lk h) && keepX s s' r
theorem keepX_ok [YL] {s s':XS}:∀ {hs:List Hd},keepX s s' hs=true->keepH false hs s.er s'.er
 | [],_=>fun _ h=>by cases h
 | h :: r,e=>by
  have e:(shpE (s.lk h) (s'.lk h) && keepX s s' r)=true:=e
  rw [Bool.and_eq_true] at e
  intro x hx
  rcases List.mem_cons.1 hx with rfl | hx
  ·rw [lk_er,lk_er];exact shpE_ok e.1
  ·exact keepX_ok e.2 x hx
def xhd:XV->Option Hd
 | .apt h _=>some h
 | .asl h _ _=>some h
 | .rpt h _=>some h
 | .rpa h _ _=>some h
 | .rsl h _ _ _=>some h
 | .ptr h _=>some h
 | .pa h _ _=>some h
 | .ept h _ _ _=>some h
 | .epa h _ _ _ _=>some h
 | .slw h _ _=>some h
 | .sl h _ _ _=>some h
 | _=>none
theorem xhd_ok [YL] {v:XV} {h:Hd} (e:xhd v=some h):v.er.hd?=some h:=by
 unfold xhd at e
 split at e <;> first | exact e | cases e
def ldX (hs:List Hd) (s:XS) (op:ROp):Bool:=match op.sArg with
 | none=>true
 | some x=>match xhd (s.ev x) with
  | some h=>hin h hs
  | none=>noG x
theorem xhd_none [YL] {v:XV} (e:xhd v=none):v.er.hd?=none:=by
 cases v <;> first | rfl | (cases e;done) | skip
 rename_i t x
 cases t <;> rfl
theorem ldX_ok [YL] {hs:List Hd} {s:XS} {op:ROp} (h:ldX hs s op=true):ldOk hs op s.er.ev:=by
 unfold ldX at h
 unfold ldOk
 split at h
 ·rename_i e;rw [e];trivial
 ·rename_i x e
  rw [e]
  split at h
  ·rename_i hd hx
   intro h' e'
   rw [ev_ok s rfl,xhd_ok hx] at e'
   cases e'
   exact hin_iff.1 h
  ·rename_i hx
   intro h' e'
   rw [ev_ok s rfl,xhd_none hx] at e'
   cases e'
def headAt (s:XS) (x:Operand) (K:List Hd):List Hd:=match xhd (s.ev x) with
 | some h=>match hin h K with
  | true=>K
  | false=>h :: K
 | none=>K
def cellAt:List XV->Nat->Option XV
 | [],_=>none
 | v :: _,0=>some v
 | .d t _ :: r,off + 1=>match Nat.ble t.n (off + 1) with
  | true=>cellAt r (off + 1 - t.n)
  | false=>none
 | _ :: r,off + 1=>cellAt r off
def ldP (s:XS) (ag:Option Nat) (dst:Option Nat) (x:Operand):XS:=match ag,s.ev x with
 | none,.ptr h off=>match s.lk h with
  | some (.box cs)=>match cellAt cs off with
   | some v=>s.put dst v [] []
   | none=>s
  | _=>s
 | _,_=>s
def heads (s:XS):List XRO->List Hd
 | []=>[]
 | o :: r=>match o.ro.op with
  | .mv x=>heads (s.put o.ro.dst (s.ev x) [] []) r
  | .nilcS x=>headAt s x (heads (s.put o.ro.dst (s.ev x) [] []) r)
  | .loadS ag x=>headAt s x (heads (ldP s ag o.ro.dst x) r)
  | .faddrS _ x=>headAt s x (heads (s.put o.ro.dst (s.ev x) [] []) r)
  | .iaddr _ x _=>heads (s.put o.ro.dst (s.ev x) [] []) r
  | .faddr _ x=>heads (s.put o.ro.dst (s.ev x) [] []) r
  | .iaddrA _ _ x _=>heads (s.put o.ro.dst (s.ev x) [] []) r
  | op=>match op.sArg with
   | some x=>headAt s x (heads s r)
   | none=>heads s r
def eqX0 (v w:XV) (K:Option R):Option R:=match v,w with
 | .d t x,.d t' y=>match t'.cst t y with
  | some y=>gd? (x=y) K
  | none=>none
 | .slw h t n,.slw h' t' n'=>match h.eqb h',t.beq t' with
  | true,true=>gd? (n=n') K
  | _,_=>none
 | .ptr h o,.ptr h' o'=>match h.eqb h',Nat.beq o o' with
  | true,true=>K
  | _,_=>none
 | .apt h o,.apt h' o'=>match h.eqb h',Nat.beq o o' with
  | true,true=>K
  | _,_=>none
 | .rpt h o,.rpt h' o'=>match h.eqb h',Nat.beq o o' with
  | true,true=>K
  | _,_=>none
 | .mref h,.mref h'=>match h.eqb h' with
  | true=>K
  | false=>none
 | .fln _,.fln _=>K
 | .nl _,.nl _=>K
 | .sc,.sc=>K
 | .c x,.c y=>match cEq x y with
  | true=>K
  | false=>none
 | _,_=>none
theorem eqX0_ok [YL] {v w:XV} {K:Option R} {r:R} (h:eqX0 v w K=some r):(v.fc=w.fc/\v.er=w.er)/\K=some r:=by
 unfold eqX0 at h
 split at h
 ·split at h
  ·rename_i y hy
   obtain ⟨e,rfl⟩:=Ty.cst_ok hy
   subst e
   obtain ⟨rfl,h⟩:=F_gd h
   exact ⟨⟨rfl,rfl⟩,by assumption⟩
  ·cases h
 ·split at h
  ·rename_i h1 h2
   obtain rfl:=Hd.eqb_iff.1 h1
   obtain rfl:=Ty.eq_of h2
   replace h:=F_gd h
   obtain ⟨e,h⟩:=h
   subst e
   exact ⟨⟨rfl,rfl⟩,h⟩
  ·cases h
 ·split at h
  ·rename_i h1 h2
   obtain rfl:=Hd.eqb_iff.1 h1
   obtain rfl:=Nat.eq_of_beq_eq_true h2
   exact ⟨⟨rfl,rfl⟩,h⟩
  ·cases h
 ·split at h
  ·rename_i h1 h2
   obtain rfl:=Hd.eqb_iff.1 h1
   obtain rfl:=Nat.eq_of_beq_eq_true h2
   exact ⟨⟨rfl,rfl⟩,h⟩
  ·cases h
 ·split at h
  ·rename_i h1 h2
   obtain rfl:=Hd.eqb_iff.1 h1
   obtain rfl:=Nat.eq_of_beq_eq_true h2
   exact ⟨⟨rfl,rfl⟩,h⟩
  ·cases h
 ·split at h
  ·rename_i h1
   obtain rfl:=Hd.eqb_iff.1 h1
   exact ⟨⟨rfl,rfl⟩,h⟩
  ·cases h
 ·exact ⟨⟨rfl,rfl⟩,h⟩
 ·exact ⟨⟨rfl,rfl⟩,h⟩
 ·exact ⟨⟨rfl,rfl⟩,h⟩
 ·split at h
  ·rename_i h1
   obtain rfl:=cEq_ok h1
   exact ⟨⟨rfl,rfl⟩,h⟩
  ·cases h
 ·cases h
def eqX0L:List XV->List XV->Option R->Option R
 | [],[],K=>K
 | v :: vs,w :: ws,K=>eqX0 v w (eqX0L vs ws K)
 | _,_,_=>none
theorem eqX0L_ok [YL] {r:R}:∀ {vs ws:List XV} {K:Option R},eqX0L vs ws K=some r->XV.erL vs=XV.erL ws/\K=some r
 | [],[],_,h=>⟨rfl,h⟩
 | v :: vs,w :: ws,K,h=>by
  obtain ⟨⟨_,e⟩,h⟩:=eqX0_ok (K:=eqX0L vs ws K) h
  obtain ⟨e2,h⟩:=eqX0L_ok h
  exact ⟨by show v.er :: XV.erL vs=w.er :: XV.erL ws;rw [e,e2],h⟩
 | [],_ :: _,_,h=>by cases h
 | _ :: _,[],_,h=>by cases h
def eqX (v w:XV) (K:Option R):Option R:=match v,w with
 | .clo f vs,.clo f' ws=>match Nat.beq f f' with
  | true=>eqX0L vs ws K
  | false=>none
 | v,w=>eqX0 v w K
theorem eqX_ok [YL] {v w:XV} {K:Option R} {r:R} (h:eqX v w K=some r):v.fc=w.fc/\K=some r:=by
 unfold eqX at h
 split at h
 ·split at h
  ·rename_i hf
   obtain rfl:=Nat.eq_of_beq_eq_true hf
   obtain ⟨e,h⟩:=eqX0L_ok h
   exact ⟨by show [AV.clo _ (XV.erL _)]=[AV.clo _ (XV.erL _)];rw [e],h⟩
  ·cases h
 ·obtain ⟨⟨e,_⟩,h⟩:=eqX0_ok h
  exact ⟨e,h⟩
def eqXL:List XV->List XV->Option R->Option R
 | [],[],K=>K
 | v :: vs,w :: ws,K=>eqX v w (eqXL vs ws K)
 | _,_,_=>none
theorem eqXL_ok [YL] {r:R}:∀ {vs ws:List XV} {K:Option R},eqXL vs ws K=some r->XV.fcL vs=XV.fcL ws/\K=some r
 | [],[],_,h=>⟨rfl,h⟩
 | v :: vs,w :: ws,K,h=>by
  obtain ⟨e,h⟩:=eqX_ok (K:=eqXL vs ws K) h
  obtain ⟨e2,h⟩:=eqXL_ok h
  exact ⟨by show v.fc ++ XV.fcL vs=w.fc ++ XV.fcL ws;rw [e,e2],h⟩
 | [],_ :: _,_,h=>by cases h
 | _ :: _,[],_,h=>by cases h
def eqXB (b c:Option XB) (K:Option R):Option R:=match b,c with
 | some (.box vs),some (.box ws)=>eqXL vs ws K
 | some (.row mt t xs),some (.row mt' t' ys)=>match mt == mt',(Ty.sl t').cst (.sl t) ys with
  | true,some ys=>gd? (xs=ys) K
  | _,_=>none
 | some (.arr mt n k x),some (.arr mt' n' k' y)=>match mt == mt',(Ty.ar n' k').cst (.ar n k) y with
  | true,some y=>gd? (x=y) K
  | _,_=>none
 | some (.rb mt t x),some (.rb mt' t' y)=>match mt == mt',t'.cst t y with
  | true,some y=>gd? (x=y) K
  | _,_=>none
 | _,_=>none
theorem eqXB_ok [YL] {b c:Option XB} {K:Option R} {r:R} (h:eqXB b c K=some r):b.map XB.er=c.map XB.er/\K=some r:=by
 unfold eqXB at h
 split at h
 ·obtain ⟨e,h⟩:=eqXL_ok h
  exact ⟨congrArg (fun l=>some (Blk.box l)) e,h⟩
 ·split at h
  ·rename_i ys h1 hy
   obtain ⟨e,hy⟩:=Ty.cst_ok hy
   cases e
   cases hy
   replace h:=F_gd h
   obtain ⟨e,h⟩:=h
   cases e
   exact ⟨by rw [eq_of_beq h1],h⟩
  ·cases h
 ·split at h
  ·rename_i y h1 hy
   obtain ⟨e,hy⟩:=Ty.cst_ok hy
   cases e
   cases hy
   replace h:=F_gd h
   obtain ⟨e,h⟩:=h
   cases e
   exact ⟨by rw [eq_of_beq h1],h⟩
  ·cases h
 ·split at h
  ·rename_i y h1 hy
   obtain ⟨e,hy⟩:=Ty.cst_ok hy
   subst e
   cases hy
   replace h:=F_gd h
   obtain ⟨e,h⟩:=h
   cases e
   exact ⟨by rw [eq_of_beq h1],h⟩
  ·cases h
 ·cases h
def keepXL (s s':XS):List Hd->Option R->Option R
 | [],K=>K
 | h :: r,K=>eqXB (s.lk h) (s'.lk h) (keepXL s s' r K)
theorem keepXL_ok [YL] {s s':XS} {r:R}:∀ {hs:List Hd} {K:Option R},keepXL s s' hs K=some r->keepH true hs s.er s'.er/\K=some r
 | [],_,h=>⟨fun _ h=>(by cases h),h⟩
 | x :: hs,K,h=>by
  obtain ⟨e,h⟩:=eqXB_ok (K:=keepXL s s' hs K) h
  obtain ⟨e2,h⟩:=keepXL_ok h
  refine ⟨fun y hy=>?_,h⟩
  rcases List.mem_cons.1 hy with rfl | hy
  ·show s'.er.lk y=s.er.lk y
   rw [lk_er,lk_er,e]
  ·exact e2 y hy
def keepW (ld:Bool) (s s':XS) (hs:List Hd) (K:Option R):Option R:=match ld with
 | true=>keepXL s s' hs K
 | false=>match keepX s s' hs with
  | true=>K
  | false=>none
theorem keepW_ok [YL] {ld:Bool} {s s':XS} {hs:List Hd} {K:Option R} {r:R} (h:keepW ld s s' hs K=some r):keepH ld hs s.er s'.er/\K=some r:=by
 unfold keepW at h
 split at h
 ·exact keepXL_ok h
 ·split at h
  ·rename_i e;exact ⟨keepX_ok e,h⟩
  ·cases h
def xloadS1 (s:XS) (o:XRO) (K:XS->Option R):Option R:=match o.ro.op with
 | .loadS ag x=>w1 s x fun v=>match xhd v with
  | some _=>xload s ag (fun a=>K (s.put o.ro.dst a [] [])) v
  | none=>none
 | .faddrS off x=>w1 s x fun v=>match xhd v,xlive s v with
  | some _,true=>xfaddr off (fun a=>K (s.put o.ro.dst a [] [])) v
  | _,_=>none
 | .lenS str x=>w1 s x fun v=>match xhd v,xlive s v,xlen str v with
  | some _,true,some m=>K (s.put o.ro.dst (.d (.i .i64) (m:Int)) [] [])
  | _,_,_=>none
 | .nilcS x=>w1 s x fun v=>match xhd v,xlive s v with
  | some _,true=>xnilc (fun a=>K (s.put o.ro.dst a [] [])) v
  | _,_=>none
 | _=>none
theorem lk_put0 (s:XS) (dst:Option Nat) (v:XV) (h:Hd):(s.put dst v [] []).lk h=s.lk h:=by
 cases h with
 | B i=>rfl
 | O i=>show bget (s.own ++ []) i=bget s.own i;rw [List.append_nil]
theorem xloadS1_ok [YL] {P:Program} {s:XS} {o:XRO} {K:XS->Option R} {r:R} (h:xloadS1 s o K=some r) {KP:AState->Prop} (hK:∀ s',(∀ h,s'.lk h=s.lk h)->K s'=some r->KP s'.er):sstep P s.er o.ro KP:=by
 have hput:∀ v,K (s.put o.ro.dst v [] [])=some r->KP (s.er.put o.ro.dst v.er [] []):=fun v h=>by
  have:=hK _ (lk_put0 s _ v) h
  rw [er_put] at this
  exact this
 unfold xloadS1 at h
 split at h
 ·rename_i ag x e
  obtain ⟨h,e1⟩:=w1_ok h
  split at h
  ·rename_i hd hh
   unfold sstep
   rw [e]
   show (s.er.ev x).hd?.isSome=true/\aload s.er.lk ag _ (s.er.ev x)
   rw [e1,xhd_ok hh]
   exact ⟨rfl,xload_ok h fun v h=>hput v h⟩
  ·cases h
 ·rename_i off x e
  obtain ⟨h,e1⟩:=w1_ok h
  split at h
  ·rename_i hd hh hl
   unfold sstep
   rw [e]
   show (s.er.ev x).hd?.isSome=true/\AV.live s.er.lk (s.er.ev x)=true/\_
   rw [e1,xhd_ok hh]
   exact ⟨rfl,xlive_ok hl,xfaddr_ok h (KP:=fun a=>KP (s.er.put o.ro.dst a [] [])) fun v h=>hput v h⟩
  ·cases h
 ·rename_i str x e
  obtain ⟨h,e1⟩:=w1_ok h
  split at h
  ·rename_i hd m hh hl hm
   unfold sstep
   rw [e]
   show (s.er.ev x).hd?.isSome=true/\AV.live s.er.lk (s.er.ev x)=true/\_
   rw [e1,xhd_ok hh]
   exact ⟨rfl,xlive_ok hl,m,xlen_ok hm,hput _ h⟩
  ·cases h
 ·rename_i x e
  obtain ⟨h,e1⟩:=w1_ok h
  split at h
  ·rename_i hd hh hl
   unfold sstep
   rw [e]
   show (s.er.ev x).hd?.isSome=true/\AV.live s.er.lk (s.er.ev x)=true/\_
   rw [e1,xhd_ok hh]
   exact ⟨rfl,xlive_ok hl,xnilc_ok h (KP:=fun a=>KP (s.er.put o.ro.dst a [] [])) fun v h=>hput v h⟩
  ·cases h
 ·cases h
def xloadS (s:XS) (o:XRO) (K:XS->Option R):Option R:=match o.ro.guard with
 | none=>xloadS1 s o K
 | some (t,want)=>match eget s.env t with
  | .d .b c=>match want with
   | true=>if? c (xloadS1 (xguard s t true) o K) (K ((xguard s t false).put o.ro.dst .un [] []))
   | false=>if? c (K ((xguard s t true).put o.ro.dst .un [] [])) (xloadS1 (xguard s t false) o K)
  | .un=>K (s.put o.ro.dst .un [] [])
  | _=>none
theorem xloadS_ok [YL] {P:Program} {s:XS} {o:XRO} {K:XS->Option R} {r:R} (h:xloadS s o K=some r) {KP:AState->Prop} (hK:∀ s',(∀ h,s'.lk h=s.lk h)->K s'=some r->KP s'.er):aops P [o.ro] s.er KP:=by
 unfold xloadS at h
 unfold aops
 split at h
 ·rename_i hg
  rw [hg]
  exact xloadS1_ok h hK
 ·rename_i t want hg
  rw [hg]
  split at h
  ·rename_i c hc
   have ht:s.er.env t=.D (.B c):=by show (eget s.env t).er=_;rw [hc];rfl
   show match s.er.env t with
    | .D (.B c)=>(c=want->_)/\(¬ c=want->_)
    | .D (.C (.tuple _))=>_
    | _=>False
   rw [ht]
   split at h
   ·rcases F_if h with ⟨e,h⟩ | ⟨e,h⟩
    ·have:=xloadS1_ok (P:=P) h fun s' e=>hK s' e
     rw [xguard_er hc e] at this
     exact ⟨fun _=>this,fun h=>absurd e h⟩
    ·have:=hK _ (fun x=>lk_put0 (xguard s t false) _ _ x) h
     rw [er_put,xguard_er hc e] at this
     exact ⟨fun h=>Bool.noConfusion (e.symm.trans h),fun _=>this⟩
   ·rcases F_if h with ⟨e,h⟩ | ⟨e,h⟩
    ·have:=hK _ (fun x=>lk_put0 (xguard s t true) _ _ x) h
     rw [er_put,xguard_er hc e] at this
     exact ⟨fun h=>Bool.noConfusion (e.symm.trans h),fun _=>this⟩
    ·have:=xloadS1_ok (P:=P) h fun s' e=>hK s' e
     rw [xguard_er hc e] at this
     exact ⟨fun _=>this,fun h=>absurd e h⟩
  ·rename_i hc
   have ht:s.er.env t=.D (.C undef):=by show (eget s.env t).er=_;rw [hc];rfl
   show match s.er.env t with
    | .D (.B c)=>(c=want->_)/\(¬ c=want->_)
    | .D (.C (.tuple _))=>_
    | _=>False
   rw [ht]
   have:=hK _ (fun x=>lk_put0 s _ _ x) h
   rw [er_put] at this
   exact this
  ·cases h
def isLdO:ROp->Bool
 | .loadS _ _=>true
 | .faddrS _ _=>true
 | .nilcS _=>true
 | .lenS _ _=>true
 | _=>false
def lastO:Bool->List XRO->Bool
 | true,[]=>true
 | _,_=>false
theorem lastO_ok {l:Bool} {os:List XRO} (h:lastO l os=true):¬ (l=false\/os.map XRO.ro ≠ []):=by
 unfold lastO at h
 split at h
 ·simp
 ·cases h
def xopsS (T:List Sig) (ld:Bool) (hs:List Hd) (lst:Bool):List XRO->XS->(XS->Option R)->Option R
 | [],s,K=>K s
 | o :: r,s,K=>match ldX hs s o.ro.op with
  | true=>match isLdO o.ro.op with
   | true=>xloadS s o fun s'=>xopsS T ld hs lst r s' K
   | false=>match o.ro.op.ht,lastO lst r with
    | true,false=>xops T [o] s fun s'=>keepW ld s s' hs (xopsS T ld hs lst r s' K)
    | _,_=>xops T [o] s fun s'=>xopsS T ld hs lst r s' K
  | false=>none
theorem xopsS_ok [YL] {P:Program} {T:List Sig} (hT:TblOk P T) {ld:Bool} {hs:List Hd} {lst:Bool} {r:R}:∀ {os:List XRO} {s:XS} {K:XS->Option R},xopsS T ld hs lst os s K=some r->∀ {KP:AState->Prop},(∀ s',K s'=some r->KP s'.er)->aopsS P ld hs lst (os.map XRO.ro) s.er KP
 | [],s,K,h,KP,hK=>hK _ h
 | o :: os,s,K,h,KP,hK=>by
  unfold xopsS at h
  split at h
  ·rename_i e
   split at h
   ·refine ⟨ldX_ok e,xloadS_ok h fun s' e2 h=>⟨fun _ _ x hx=>?_,xopsS_ok hT h hK⟩⟩
    rw [lk_er,lk_er,e2]
    exact keepB.refl _ _
   ·split at h
    ·refine ⟨ldX_ok e,xops_ok (os:=[o]) hT h fun s' h=>?_⟩
     obtain ⟨e2,h⟩:=keepW_ok h
     exact ⟨fun _ _=>e2,xopsS_ok hT h hK⟩
    ·rename_i hn
     refine ⟨ldX_ok e,xops_ok (os:=[o]) hT h fun s' h=>⟨fun e1 e2=>?_,xopsS_ok hT h hK⟩⟩
     cases e3:lastO lst os with
     | true=>exact absurd e2 (lastO_ok e3)
     | false=>exact absurd e3 (hn e1)
  ·cases h

theorem AV.flat_renE {ψ:Hd->Hd}:∀ (a:AV),AV.flat (AV.ren ψ a)=AV.flat a:=by
 intro a
 apply AV.rec (motive_1:=fun a=>AV.flat (AV.ren ψ a)=AV.flat a) (motive_2:=fun as=>AV.flatL (AV.renL ψ as)=AV.flatL as)
 all_goals intros
 all_goals simp_all [AV.flat,AV.ren,AV.flatL,AV.renL]
def xopsP (T:List Sig) (dr:Bool):List XRO->XS->(XS->Option R)->(Value->XS->Option R)->Option R
 | [],s,K,_=>K s
 | o :: r,s,K,Kp=>match o.ro.op with
  | .callP f args=>match o.ro.guard with
   | none=>w1 s f fun vf=>wL s args fun vs=>xcallP T s vs (fun v nbs fz=>match dr,flX v,nbs with
    | false,_,_=>xopsP T dr r (s.put o.ro.dst v nbs fz) K Kp
    | true,true,[]=>xopsP T dr r (s.put o.ro.dst v nbs fz) K Kp
    | true,_,_=>none) (fun pv=>Kp pv (s.put none .any [] [])) vf
   | some _=>none
  | .pan x=>match o.ro.guard with
   | none=>w1 s x fun v=>match v with
    | .c (.iface t u)=>Kp (.iface t u) s
    | _=>none
   | some _=>none
  | _=>xops T [o] s fun s'=>xopsP T dr r s' K Kp
theorem xopsP_ok [YL] {P:Program} {T:List Sig} (hT:TblOk P T) {dr:Bool} {r:R} {Pn:Value->AState->Prop}:∀ {os:List XRO} {s:XS} {K:XS->Option R} {Kp:Value->XS->Option R},xopsP T dr os s K Kp=some r->∀ {KP:AState->Prop},(∀ s',K s'=some r->KP s'.er)->(∀ pv s',Kp pv s'=some r->Pn pv s'.er)->aopsP P dr (os.map XRO.ro) s.er KP Pn
 | [],s,K,_,h,KP,hK,_=>hK _ h
 | o :: os,s,K,Kp,h,KP,hK,hP=>by
  unfold xopsP at h
  show aopsP P dr (o.ro :: os.map XRO.ro) s.er KP Pn
  unfold aopsP
  split at h
  ·rename_i f args e
   rw [e]
   split at h
   ·rename_i hg
    refine ⟨hg,?_⟩
    obtain ⟨h,e1⟩:=w1_ok h
    obtain ⟨vs,h,e2⟩:=wL_ok h
    obtain ⟨fn,caps,h1,h2⟩:=xcallP_ok hT h (KP:=fun a nbs fz=>(dr=true->AV.flat a=true/\nbs=[])/\aopsP P dr (os.map XRO.ro) (s.er.put o.ro.dst a nbs fz) KP Pn) fun v nbs fz h=>by
     rw [<- er_put]
     split at h
     ·exact ⟨fun h=>Bool.noConfusion h,xopsP_ok hT h hK hP⟩
     ·exact ⟨fun _=>⟨(flX_er v).trans (by assumption),rfl⟩,xopsP_ok hT h hK hP⟩
     ·cases h
    refine ⟨fn,caps,e1.trans h1,?_⟩
    rw [e2]
    rcases h2 with ⟨rr,nbs,h2,h3,h4⟩ | ⟨pv,h2,h3⟩
    ·exact .inl ⟨rr,nbs,fun hd=>by
      obtain ⟨a1,a2⟩:=h3 hd
      rw [AV.flat_renE] at a1
      exact ⟨a1,List.map_eq_nil_iff.1 a2⟩,h2,h4⟩
    ·refine .inr ⟨pv,h2,?_⟩
     have:=hP _ _ h3
     rw [er_put] at this
     exact this
   ·cases h
  ·rename_i x e
   rw [e]
   split at h
   ·rename_i hg
    refine ⟨hg,?_⟩
    obtain ⟨h,e1⟩:=w1_ok h
    split at h
    ·rename_i t u hv
     rw [hv] at e1
     exact ⟨t,u,e1,hP _ _ h⟩
    ·cases h
   ·cases h
  ·rename_i n1 n2
   split
   ·rename_i f args e;exact absurd e (n1 f args)
   ·rename_i x e;exact absurd e (n2 x)
   ·exact xops_ok (os:=[o]) hT h fun s' h=>xopsP_ok hT h hK hP
def maskX:List XRO->XS->XS
 | [],s=>s
 | o :: os,s=>maskX os (s.put o.ro.dst .any [] [])
theorem maskX_er [YL]:∀ (os:List XRO) (s:XS),(maskX os s).er=maskR (os.map XRO.ro) s.er
 | [],_=>rfl
 | o :: os,s=>by
  show (maskX os _).er=maskR (os.map XRO.ro) (s.er.put o.ro.dst .any [] [])
  rw [maskX_er os,er_put];rfl

end Go.Eng

namespace Go.Eng
open Go.RowKit
variable {R:Type}

end Go.Eng

namespace Go.Eng
open Go.RowKit
variable {R:Type}

instance rtyDeq:(ts:List Ty)->DecidableEq (rty ts)
 | []=>inferInstanceAs (DecidableEq Unit)
 | [t]=>t.deq
 | t :: t2 :: ts=>@instDecidableEqProd _ _ t.deq (rtyDeq (t2 :: ts))
instance rtDeq:(l:List XS)->DecidableEq (RT l)
 | []=>inferInstanceAs (DecidableEq Unit)
 | [m]=>rtyDeq m.tys
 | m :: m2 :: l=>@instDecidableEqSum _ _ (rtyDeq m.tys) (rtDeq (m2 :: l))

inductive XC where
 | skip
 | reg (dr:Bool) (os:List XRO)
 | regS (lst:Bool) (os:List XRO)
 | regP (os:List XRO)
 | regDP (os:List XRO)
 | regN (os:List XRO)
 | regM (os:List XRO) (x:MA)
 | seq (a b:XC)
 | join (pure:Bool) (m:XS) (a b:XC)
 | cond (c:Operand) (a b:XC)
 | block (id:Nat) (b:XC)
 | loop (m:XS) (b:XC)
 | exit (id:Nat)
 | scope (b:XC)
 | ret
 | regY (os:List XRO)
 | rangeF (N0:Nat) (g:Operand) (ps:Array Tmp) (ca cb:Code) (f N2:Nat) (a b it:XC)
 | bad (rc:RCode)
def XC.rc:XC->RCode
 | .skip=>.skip
 | .reg dr os=>.reg dr (os.map XRO.ro)
 | .regS lst os=>.regS lst (os.map XRO.ro)
 | .regP os=>.regP (os.map XRO.ro)
 | .regDP os=>.regDP (os.map XRO.ro)
 | .regN os=>.regN (os.map XRO.ro)
 | .regM os x=>.regM (os.map XRO.ro) x
 | .seq a b=>.seq a.rc (.wkr b.rc)
 | .join _ _ a b=>.seq a.rc (.wkr b.rc)
 | .cond c a b=>.cond c a.rc b.rc
 | .block id b=>.block id b.rc
 | .loop _ b=>.loop b.rc
 | .exit id=>.exit id
 | .scope b=>.scope b.rc
 | .ret=>.ret
 | .regY os=>.regY (os.map XRO.ro)
 | .rangeF N0 g ps ca cb _ _ _ _ _=>.sem N0 (.rangeFunc g ps ca cb)
 | .bad rc=>rc
def XC.Wf (P:Program):XC->Prop
 | .seq a b=>a.Wf P/\b.Wf P
 | .join _ _ a b=>a.Wf P/\b.Wf P
 | .cond _ a b=>a.Wf P/\b.Wf P
 | .block _ b=>b.Wf P
 | .loop _ b=>b.Wf P
 | .scope b=>b.Wf P
 | .rangeF N0 g _ ca cb f N2 a b it => (∃ fl flB fn c2, P.funcs[f]? = some fn /\ fn.body = some c2 /\ (fn.name == "runtime.NumGoroutine") = false /\ P.follows .mixedOrders = true /\ resolveCode P fl N2 c2 = some it.rc /\ resolveCode P flB N0 ca = some a.rc /\ resolveCode P flB N0 cb = some b.rc /\
   fn.results=#[]/\g.inN N0=true/\fn.ntmps=N2)/\a.Wf P/\b.Wf P/\it.Wf P
 | _=>True
def kSeq (f:XS->Option R) (K:Exit->XS->Option R):Exit->XS->Option R
 | .normal,s=>f s
 | e,s=>K e s
def kBlock (id:Nat) (K:Exit->XS->Option R):Exit->XS->Option R
 | .exit i,s=>match Nat.beq i id with
  | true=>K .normal s
  | false=>K (.exit i) s
 | e,s=>K e s
def kScope (K:Exit->XS->Option R):Exit->XS->Option R
 | .goto _,_=>none
 | e,s=>K e s
def inl? {α β:Type} (a:Option β):Option (β ⊕ α):=match a with
 | some r=>some (.inl r)
 | none=>none
def jn? {α β:Type} (a:Option (β ⊕ α)) (f:α->Option β):Option β:=match a with
 | some (.inl r)=>some r
 | some (.inr x)=>f x
 | none=>none
theorem F_inl {α β:Type} {a:Option β} {r:β ⊕ α} (h:inl? a=some r):∃ x,a=some x/\r=.inl x:=by
 unfold inl? at h
 split at h
 ·cases h;exact ⟨_,rfl,rfl⟩
 ·cases h
theorem F_jn {α β:Type} {a:Option (β ⊕ α)} {f:α->Option β} {r:β} (h:jn? a f=some r):a=some (.inl r)\/∃ x,a=some (.inr x)/\f x=some r:=by
 unfold jn? at h
 split at h
 ·cases h;exact .inl rfl
 ·exact .inr ⟨_,rfl,h⟩
 ·cases h
def kJoin (m:XS) (K:Exit->XS->Option R):Exit->XS->Option (R ⊕ rty m.tys)
 | .normal,s=>rd m s fun v=>some (.inr (toR m.tys v))
 | e,s=>inl? (K e s)
def kJoinP (m:XS):Exit->XS->Option (rty m.tys)
 | .normal,s=>rd m s fun v=>some (toR m.tys v)
 | _,_=>none
def xset (s:XS) (c:Operand) (q:Bool):XS:=match c with
 | .tmp t=>xguard s t q
 | _=>s
def loopC (ts:List Ty) (f:fty ts R->fty ts R):Nat->fty ts R
 | 0=>cuN ts
 | n + 1=>f (loopC ts f n)
where cuN (ts:List Ty):fty ts R:=cuF ts fun _=>none
theorem cuN_ok (ts:List Ty) (v:tup ts):apF ts (loopC.cuN (R:=R) ts) v=none:=by
 show apF ts (cuF ts _) v=none
 rw [apF_cuF]
structure YX where
 plain:Bool
 f:{R:Type}->[DecidableEq R]->List XV->XS->(Bool->XS->Option R)->Option R
def noX:YX:=⟨true,fun _ _ _=>none⟩
def bodyX:YX:=⟨false,fun _ _ _=>none⟩
def ystX (s:XS) (o:XRO):Option (List XV):=match o.ro.op with
 | .callE f args=>match s.ev f with
  | .yld=>some (args.map s.ev)
  | _=>none
 | _=>none
def xopsY [DecidableEq R] (T:List Sig) (Y:YX):List XRO->XS->(XS->Option R)->Option R
 | [],s,K=>K s
 | o :: r,s,K=>match ystX s o with
  | none=>xops T [o] s fun s'=>xopsY T Y r s' K
  | some args=>match o.ro.guard with
   | none=>Y.f args s fun c s'=>xopsY T Y r (s'.put o.ro.dst (.d .b c) [] []) K
   | some (t,want)=>match eget s.env t with
    | .d .b x=>match want with
     | true=>if? x (Y.f args s fun c s'=>xopsY T Y r (s'.put o.ro.dst (.d .b c) [] []) K) (xopsY T Y r (s.put o.ro.dst .un [] []) K)
     | false=>if? x (xopsY T Y r (s.put o.ro.dst .un [] []) K) (Y.f args s fun c s'=>xopsY T Y r (s'.put o.ro.dst (.d .b c) [] []) K)
    | .un=>xopsY T Y r (s.put o.ro.dst .un [] []) K
    | _=>none
mutual
def XV.cln:XV->Bool
 | .yld=>false
 | .agg cs=>XV.clnL cs
 | .tup cs=>XV.clnL cs
 | .clo _ cs=>XV.clnL cs
 | _=>true
def XV.clnL:List XV->Bool
 | []=>true
 | v :: r=>v.cln && XV.clnL r
end
def XB.cln:XB->Bool
 | .box cs=>XV.clnL cs
 | _=>true
def clnE:List (Nat × XV)->Bool
 | []=>true
 | (_,v) :: r=>v.cln && clnE r
def clnB:List (Option XB)->Bool
 | []=>true
 | none :: r=>clnB r
 | some b :: r=>b.cln && clnB r
def XS.cln (s:XS):Bool:=clnE s.env && clnB s.bs && clnB s.own
def dnE' (n:Nat):List (Nat × XV)->List (Nat × XV)
 | []=>[]
 | (k,v) :: r=>match Nat.ble n k with
  | true=>(k - n,v) :: dnE' n r
  | false=>dnE' n r
def ltE (n:Nat):List (Nat × XV)->List (Nat × XV)
 | []=>[]
 | (k,v) :: r=>match Nat.blt k n with
  | true=>(k,v) :: ltE n r
  | false=>ltE n r
def noE (n:Nat):List (Nat × XV)->List (Nat × XV)
 | []=>[]
 | (k,v) :: r=>match Nat.beq k n with
  | true=>noE n r
  | false=>(k,v) :: noE n r
def leaveX (N0 N2:Nat) (s:XS):XS:={ s with env:=noE N0 (dnE' (N2 + 1) s.env) }
def kItE (N0 N2:Nat) (K:Exit->XS->Option R) (s:XS):Option R:=match (leaveX N0 N2 s).cln,eget s.env N2 with
 | true,.gst .go=>K .normal (leaveX N0 N2 s)
 | true,.gst (.exit id)=>K (.exit id) (leaveX N0 N2 s)
 | true,.gst .ret=>K .ret (leaveX N0 N2 s)
 | _,_=>none
def xcode (N:Nat) (T:List Sig):XC->YX->{R:Type}->[DecidableEq R]->XS->(Exit->XS->Option R)->Option R
 | .skip,_,_,_,s,K=>K .normal s
 | .reg _ os,_,_,_,s,K=>xops T os s (K .normal)
 | .regP os,_,_,_,s,K=>xopsP T false os s (K .normal) fun v s'=>K (.panic [{ v:=v,recovered:=false }]) s'
 | .regDP os,_,_,_,s,K=>xopsP T true os s (K .normal) fun v s'=>K (.panic [{ v:=v,recovered:=false }]) (maskX os s')
 | .regS lst os,_,_,_,s,K=>xopsS T (hasLd (os.map XRO.ro)) (heads s os) lst os s (K .normal)
 | .regN _,_,_,_,_,_=>none
 | .regM _ _,_,_,_,_,_=>none
 | .regY os,Y,_,_,s,K=>xopsY T Y os s (K .normal)
 | .rangeF ..,_,_,_,_,_=>none
 | .seq a b,Y,_,_,s,K=>xcode N T a Y s (kSeq (fun s'=>xcode N T b Y s' K) K)
 | .join true m a b,Y,_,_,s,K=>bd? (xcode N T a Y (R:=rty m.tys) s (kJoinP m)) fun v=>xcode N T b Y (m.fill (ofR m.tys v)) K
 | .join false m a b,Y,R,_,s,K=>jn? (xcode N T a Y (R:=R ⊕ rty m.tys) s (kJoin m K)) fun v=>xcode N T b Y (m.fill (ofR m.tys v)) K
 | .cond c a b,Y,_,_,s,K=>w1 s c fun v=>match v with
  | .d .b x=>if? x (xcode N T a Y (xset s c true) K) (xcode N T b Y (xset s c false) K)
  | .ab=>ab? (xcode N T a Y s K) (xcode N T b Y s K)
  | _=>none
 | .block id b,Y,_,_,s,K=>xcode N T b Y s (kBlock id K)
 | .loop m b,Y,_,_,s,K=>rd m s fun v=>apF m.tys (loopC m.tys (fun rec=>cuF m.tys fun v=>xcode N T b Y (m.fill v) (kSeq (fun s'=>rd m s' (apF m.tys rec)) K)) N) v
 | .exit id,_,_,_,s,K=>K (.exit id) s
 | .scope b,Y,_,_,s,K=>xcode N T b Y s (kScope K)
 | .ret,_,_,_,s,K=>K .ret s
 | .bad _,_,_,_,_,_=>none
theorem xset_er [YL] {s:XS} {c:Operand} {x q:Bool} (h:s.ev c=.d .b x) (e:x=q):(xset s c q).er=s.er:=by
 cases c with
 | tmp t=>exact xguard_er h e
 | _=>rfl
theorem er_yld [YL] {v:XV} {l:Nat} (h:v.er=.yld l):v=.yld:=by
 cases v with
 | yld=>rfl
 | d t x=>exfalso;cases t <;> cases h
 | _=>exfalso;cases h
theorem yst_ok [YL] {s:XS} {o:XRO} {args:List XV} (h:ystX s o=some args):yst s.er o.ro=some (YL.l,XV.erL args):=by
 unfold ystX at h
 unfold yst
 split at h
 ·rename_i f as e
  rw [e]
  show (match s.er.ev f with | .yld l=>some (l,as.map s.er.ev) | _=>none)=_
  split at h
  ·rename_i e2
   cases h
   have:s.er.ev f=.yld YL.l:=by rw [ev_ok s rfl,e2];rfl
   rw [this]
   show some (YL.l,as.map s.er.ev)=_
   congr 2
   induction as with
   | nil=>rfl
   | cons a as ih =>
    show s.er.ev a :: as.map s.er.ev=(s.ev a).er :: XV.erL (as.map s.ev)
    rw [ev_ok s rfl]
    congr 1
    clear e ih this
    induction as with
    | nil=>rfl
    | cons b as ih =>
     show s.er.ev b :: as.map s.er.ev=(s.ev b).er :: XV.erL (as.map s.ev)
     rw [ev_ok s rfl,ih]
  ·cases h
 ·cases h
theorem yst_no [YL] {s:XS} {o:XRO} (h:ystX s o=none):yst s.er o.ro=none:=by
 unfold ystX at h
 unfold yst
 split
 ·rename_i f as e
  rw [e] at h
  simp only at h
  split
  ·rename_i l e2
   rw [ev_ok s rfl] at e2
   rw [er_yld e2] at h
   cases h
  ·rfl
 ·rfl
def YRel [YL] (Yx:YX) (Y:Yh):Prop:=(Yx.plain=true->Y.plain=true)/\∀ {R:Type} [DecidableEq R] {r:R} {args:List XV} {s:XS} {K:Bool->XS->Option R},Yx.f args s K=some r->∀ {KP:Bool->AState->Prop},(∀ c s',K c s'=some r->KP c s'.er)->Y.f YL.l (XV.erL args) s.er KP
theorem YRel.no [YL]:YRel noX noY:=⟨fun h=>h,fun h=>by cases h⟩
theorem YRel.body [YL]:YRel bodyX bodyY:=⟨fun h=>h,fun h=>by cases h⟩
theorem xopsY_ok [YL] {P:Program} {T:List Sig} (hT:TblOk P T) {Yx:YX} {Y:Yh} (hY:YRel Yx Y) [DecidableEq R] {r:R}:∀ {os:List XRO} {s:XS} {K:XS->Option R},xopsY T Yx os s K=some r->∀ {KP:AState->Prop},(∀ s',K s'=some r->KP s'.er)->aopsY P Y (os.map XRO.ro) s.er KP
 | [],s,K,h,KP,hK=>hK _ h
 | o :: os,s,K,h,KP,hK=>by
  unfold xopsY at h
  show aopsY P Y (o.ro :: os.map XRO.ro) s.er KP
  unfold aopsY
  split at h
  ·rename_i e
   rw [yst_no e]
   exact xops_ok (os:=[o]) hT h fun s' h=>xopsY_ok hT hY h hK
  ·rename_i args e
   rw [yst_ok e]
   have go:∀ {h0:Unit},(Yx.f args s fun c s'=>xopsY T Yx os (s'.put o.ro.dst (.d .b c) [] []) K)=some r->Y.f YL.l (XV.erL args) s.er fun c s'=>aopsY P Y (os.map XRO.ro) (s'.put o.ro.dst (.D (.B c)) [] []) KP:=fun h=>hY.2 h fun c s' h=>by
    have:=xopsY_ok hT hY h hK
    rw [er_put] at this
    exact this
   have un:∀ {h0:Unit},xopsY T Yx os (s.put o.ro.dst .un [] []) K=some r->aopsY P Y (os.map XRO.ro) (s.er.put o.ro.dst .un [] []) KP:=fun h=>by
    have:=xopsY_ok hT hY h hK
    rw [er_put] at this
    exact this
   simp only
   split at h
   ·rename_i hg
    rw [hg]
    exact go (h0:=()) h
   ·rename_i t want hg
    rw [hg]
    simp only
    split at h
    ·rename_i x hx
     have ht:s.er.env t=.D (.B x):=by show (eget s.env t).er=_;rw [hx];rfl
     rw [ht]
     split at h
     ·rcases F_if h with ⟨e,h⟩ | ⟨e,h⟩
      ·exact ⟨fun _=>go (h0:=()) h,fun h=>absurd e h⟩
      ·exact ⟨fun h=>Bool.noConfusion (e.symm.trans h),fun _=>un (h0:=()) h⟩
     ·rcases F_if h with ⟨e,h⟩ | ⟨e,h⟩
      ·exact ⟨fun h=>Bool.noConfusion (e.symm.trans h),fun _=>un (h0:=()) h⟩
      ·exact ⟨fun _=>go (h0:=()) h,fun h=>absurd e h⟩
    ·rename_i hx
     have ht:s.er.env t=.D (.C (.tuple #[])):=by show (eget s.env t).er=_;rw [hx];rfl
     rw [ht]
     exact un (h0:=()) h
    ·cases h
def RunsOk (P:Program) (N:Nat) (T:List Sig) (c:XC):Prop:=∀ (y:YL) (Yx:YX) (Y:Yh),YRel Yx Y->∀ {R:Type} [DecidableEq R] {r:R} {s:XS} {K:Exit->XS->Option R},xcode N T c Yx s K=some r->∀ {Q:Exit->AState->Prop},(∀ e s',K e s'=some r->Q e s'.er)->acode P Y c.rc Q s.er
theorem xcode_ok {P:Program} {N:Nat} {T:List Sig} (hT:TblOk P T):∀ {c:XC},c.Wf P->RunsOk P N T c
 | .skip,hw,y,Yx,Y,hY,R,_,r,s,K,h,Q,hK=>hK _ _ h
 | .reg _ os,hw,y,Yx,Y,hY,R,_,r,s,K,h,Q,hK=>xops_ok hT h (KP:=Q .normal) fun s' h=>hK _ _ h
 | .regP os,hw,y,Yx,Y,hY,R,_,r,s,K,h,Q,hK=>xopsP_ok hT h (KP:=Q .normal) (fun s' h=>hK _ _ h) fun v s' h=>hK _ _ h
 | .regDP os,hw,y,Yx,Y,hY,R,_,r,s,K,h,Q,hK=>xopsP_ok hT h (KP:=Q .normal) (fun s' h=>hK _ _ h) fun v s' h=>by
   have:=hK _ _ h
   rw [maskX_er] at this
   exact this
 | .regN os,hw,y,Yx,Y,hY,R,_,r,s,K,h,Q,hK=>by cases h
 | .regM os x,hw,y,Yx,Y,hY,R,_,r,s,K,h,Q,hK=>by cases h
 | .regS _ os,hw,y,Yx,Y,hY,R,_,r,s,K,h,Q,hK=>⟨heads s os,xopsS_ok hT h (KP:=Q .normal) fun s' h=>hK _ _ h⟩
 | .regY os,hw,y,Yx,Y,hY,R,_,r,s,K,h,Q,hK=>xopsY_ok hT hY h (KP:=Q .normal) fun s' h=>hK _ _ h
 | .rangeF ..,hw,y,Yx,Y,hY,R,_,r,s,K,h,Q,hK=>by cases h
 | .seq a b,hw,y,Yx,Y,hY,R,_,r,s,K,h,Q,hK=>by
  refine xcode_ok hT (c:=a) hw.1 y Yx Y hY h (Q:=exSeq (acode P Y (.wkr b.rc) Q) Q) fun e s' h=>?_
  cases e with
  | normal=>exact ⟨s'.er,Wk.refl _,xcode_ok hT (c:=b) hw.2 y Yx Y hY h hK⟩
  | _=>exact hK _ _ h
 | .join true m a b,hw,y,Yx,Y,hY,R,_,r,s,K,h,Q,hK=>by
  obtain ⟨x,h1,h2⟩:=F_bd (show bd? (xcode N T a Yx (R:=rty m.tys) s (kJoinP m)) (fun v=>xcode N T b Yx (m.fill (ofR m.tys v)) K)=some r from h)
  refine xcode_ok hT (c:=a) hw.1 y Yx Y hY h1 (Q:=exSeq (acode P Y (.wkr b.rc) Q) Q) fun e s' h=>?_
  cases e with
  | normal =>
   obtain ⟨v,hv,hw'⟩:=rd_ok (show rd m s' _=some x from h)
   cases hv
   rw [ofR_toR] at h2
   exact ⟨_,hw',xcode_ok hT (c:=b) hw.2 y Yx Y hY h2 hK⟩
  | _=>cases h
 | .join false m a b,hw,y,Yx,Y,hY,R,_,r,s,K,h,Q,hK=>by
  rcases F_jn (show jn? (xcode N T a Yx (R:=R ⊕ rty m.tys) s (kJoin m K)) (fun v=>xcode N T b Yx (m.fill (ofR m.tys v)) K)=some r from h) with h1 | ⟨x,h1,h2⟩
  ·refine xcode_ok hT (c:=a) hw.1 y Yx Y hY h1 (Q:=exSeq (acode P Y (.wkr b.rc) Q) Q) fun e s' h=>?_
   cases e with
   | normal =>
    obtain ⟨v,hv,_⟩:=rd_ok (show rd m s' _=_ from h)
    cases hv
   | _ =>
    obtain ⟨y,hy,e⟩:=F_inl (show inl? _=_ from h)
    cases e
    exact hK _ _ hy
  ·refine xcode_ok hT (c:=a) hw.1 y Yx Y hY h1 (Q:=exSeq (acode P Y (.wkr b.rc) Q) Q) fun e s' h=>?_
   cases e with
   | normal =>
    obtain ⟨v,hv,hw'⟩:=rd_ok (show rd m s' _=_ from h)
    cases hv
    rw [ofR_toR] at h2
    exact ⟨_,hw',xcode_ok hT (c:=b) hw.2 y Yx Y hY h2 hK⟩
   | _ =>
    obtain ⟨y,hy,e⟩:=F_inl (show inl? _=_ from h)
    cases e
 | .cond c a b,hw,y,Yx,Y,hY,R,_,r,s,K,h,Q,hK=>by
  obtain ⟨h,e1⟩:=w1_ok (show w1 s c _=some r from h)
  show acond (acode P Y a.rc Q s.er) (acode P Y b.rc Q s.er) (s.er.ev c)
  rw [e1]
  split at h
  ·rename_i x hx
   rw [hx]
   rcases F_if h with ⟨e,h⟩ | ⟨e,h⟩
   ·have:=xcode_ok hT (c:=a) hw.1 y Yx Y hY h hK
    rw [xset_er hx e] at this
    exact ⟨fun _=>this,fun h=>Bool.noConfusion (e.symm.trans h)⟩
   ·have:=xcode_ok hT (c:=b) hw.2 y Yx Y hY h hK
    rw [xset_er hx e] at this
    exact ⟨fun h=>Bool.noConfusion (e.symm.trans h),fun _=>this⟩
  ·rename_i hx
   rw [hx]
   obtain ⟨h1,h2⟩:=F_ab h
   exact ⟨xcode_ok hT (c:=a) hw.1 y Yx Y hY h1 hK,xcode_ok hT (c:=b) hw.2 y Yx Y hY h2 hK⟩
  ·cases h
 | .block id b,hw,y,Yx,Y,hY,R,_,r,s,K,h,Q,hK=>by
  refine xcode_ok hT (c:=b) hw y Yx Y hY (show xcode N T b Yx s (kBlock id K)=some r from h) (Q:=exBlock id Q) fun e s' h=>?_
  cases e with
  | exit i =>
   unfold kBlock at h
   simp only at h
   show if i=id then Q .normal s'.er else Q (.exit i) s'.er
   split at h
   ·rename_i hb
    rw [if_pos (Nat.eq_of_beq_eq_true hb)];exact hK _ _ h
   ·rename_i hb
    rw [if_neg (fun e=>by rw [e] at hb;simp at hb)];exact hK _ _ h
  | _=>exact hK _ _ h
 | .loop m b,hw,y,Yx,Y,hY,R,_,r,s,K,h,Q,hK=>by
  obtain ⟨v0,h,hw'⟩:=rd_ok (show rd m s _=some r from h)
  refine .inl ⟨fun n s1=>∃ v,apF m.tys (loopC m.tys (fun rec=>cuF m.tys fun v=>xcode N T b Yx (m.fill v) (kSeq (fun s'=>rd m s' (apF m.tys rec)) K)) n) v=some r/\s1=(m.fill v).er,N,_,hw',⟨v0,h,rfl⟩,?_⟩
  rintro n s1 ⟨v,hv,rfl⟩
  cases n with
  | zero=>rw [show loopC m.tys _ 0=loopC.cuN m.tys from rfl,cuN_ok] at hv;cases hv
  | succ n =>
   rw [show loopC m.tys _ (n + 1)=cuF m.tys _ from rfl,apF_cuF] at hv
   refine xcode_ok hT (c:=b) hw y Yx Y hY hv (Q:=exSeq _ Q) fun e s' h=>?_
   cases e with
   | normal =>
    obtain ⟨v',h,hw'⟩:=rd_ok (show rd m s' _=some r from h)
    exact ⟨n,_,Nat.lt_succ_self n,hw',v',h,rfl⟩
   | _=>exact hK _ _ h
 | .exit id,hw,y,Yx,Y,hY,R,_,r,s,K,h,Q,hK=>hK _ _ h
 | .scope b,hw,y,Yx,Y,hY,R,_,r,s,K,h,Q,hK=>by
  refine xcode_ok hT (c:=b) hw y Yx Y hY (show xcode N T b Yx s (kScope K)=some r from h) (Q:=exScope Q) fun e s' h=>?_
  cases e with
  | goto _=>cases h
  | _=>exact hK _ _ h
 | .ret,hw,y,Yx,Y,hY,R,_,r,s,K,h,Q,hK=>hK _ _ h
 | .bad _,hw,y,Yx,Y,hY,R,_,r,s,K,h,Q,hK=>by cases h

def zipT:List RO->List (Option Ty)->List XRO
 | [],_=>[]
 | ro :: r,[]=>⟨ro,none⟩ :: zipT r []
 | ro :: r,t :: ts=>⟨ro,t⟩ :: zipT r ts
theorem zipT_ro:∀ (r:List RO) (ts:List (Option Ty)),(zipT r ts).map XRO.ro=r
 | [],_=>rfl
 | ro :: r,[]=>congrArg (ro :: ·) (zipT_ro r [])
 | ro :: r,_ :: ts=>congrArg (ro :: ·) (zipT_ro r ts)
def pTy:List Ty->Ty
 | []=>.u
 | [t]=>t
 | t :: r=>.p t (pTy r)
def allT (f:TypeId->Option Ty):List TypeId->Option (List Ty)
 | []=>some []
 | t :: r=>match f t,allT f r with
  | some a,some l=>some (a :: l)
  | _,_=>none
def tyOf (P:Program):Nat->TypeId->Option Ty
 | 0,_=>none
 | n + 1,t=>match P.underlying t with
  | some (.int k)=>some (.i k)
  | some .bool=>some .b
  | some .string=>some .s
  | some (.slice e)=>(tyOf P n e).map .sl
  | some (.array len e)=>match tyOf P n e with
   | some (.i k)=>some (.ar len k)
   | some (.ar m k)=>some (.ar (len * m) k)
   | some t=>some (.w (pTy (List.replicate len t)))
   | none=>none
  | some (.struct fs)=>(allT (tyOf P n) (fs.toList.map (·.type))).map fun l=>.w (pTy l)
  | _=>none
def operTy (P:Program) (o:Oper):Option Ty:=match o.op with
 | .alloc T=>tyOf P 20 T
 | .box T _=>tyOf P 20 T
 | .makeMap T _=>match P.underlying T with
  | some (.map k e)=>match tyOf P 20 k,tyOf P 20 e with
   | some k,some (.sl t)=>some (.p k (.o t))
   | some k,some t=>some (.p k t)
   | _,_=>none
  | _=>none
 | _=>tyOf P 20 o.type
structure Ann where
 at_:Nat
 pure:Bool
 m:XS
def annAt:List Ann->Nat->Option Ann
 | [],_=>none
 | a :: r,n=>match Nat.beq a.at_ n with
  | true=>some a
  | false=>annAt r n
def XC.cnt:XC->Nat
 | .seq a b=>a.cnt + b.cnt + 1
 | .join _ _ a b=>a.cnt + b.cnt + 1
 | .cond _ a b=>a.cnt + b.cnt
 | .block _ b=>b.cnt
 | .loop _ b=>b.cnt + 1
 | .scope b=>b.cnt
 | .bad _=>1
 | _=>0
def xs0:XS:=⟨[],[],[]⟩
def tyAt (P:Program) (d:Nat):List Oper->Option Ty
 | []=>none
 | o :: r=>match o.dst with
  | some d'=>match Nat.beq d' d with
   | true=>operTy P o
   | false=>tyAt P d r
  | none=>tyAt P d r
def tysD (P:Program) (ops:List Oper):List RO->List (Option Ty)
 | []=>[]
 | ro :: r=>(match ro.dst with
  | some d=>tyAt P d ops
  | none=>none) :: tysD P ops r
def mkX0 (P:Program):Code->RCode->XC
 | .skip,.skip=>.skip
 | .region _ ops _,.reg dr ros=>.reg dr (zipT ros (ops.toList.map (operTy P)))
 | .region _ ops _,.regP ros=>.regP (zipT ros (ops.toList.map (operTy P)))
 | .region _ ops _,.regDP ros=>.regDP (zipT ros (tysD P ops.toList ros))
 | .region _ ops _,.regS lst ros=>.regS lst (zipT ros (ops.toList.map (operTy P)))
 | .region _ ops _,.regN ros=>.regN (zipT ros (ops.toList.map (operTy P)))
 | .region _ ops _,.regY ros=>.regY (zipT ros (ops.toList.map (operTy P)))
 | .region _ ops _,.regM ros x=>.regM (zipT ros (ops.toList.map (operTy P))) x
 | .seq a b,.seq x (.wkr y)=>.seq (mkX0 P a x) (mkX0 P b y)
 | .cond _ a b,.cond c x y=>.cond c (mkX0 P a x) (mkX0 P b y)
 | .block _ b,.block id x=>.block id (mkX0 P b x)
 | .loop b,.loop x=>.loop xs0 (mkX0 P b x)
 | .exit _,.exit id=>.exit id
 | .scope b,.scope x=>.scope (mkX0 P b x)
 | .ret,.ret=>.ret
 | _,.skip=>.skip
 | _,rc=>.bad rc
theorem mkX0_rc (P:Program):∀ (c:Code) (rc:RCode),(mkX0 P c rc).rc=rc:=by
 intro c
 induction c with
 | seq a b ih1 ih2 =>
  intro rc
  unfold mkX0
  split <;> first
   | rfl
   | (rename_i e;cases e;show RCode.seq (mkX0 P _ _).rc (.wkr (mkX0 P _ _).rc)=_;rw [ih1,ih2];done)
   | (rename_i e;cases e;done)
   | (rename_i e _;cases e;done)
 | cond c0 a b ih1 ih2 =>
  intro rc
  unfold mkX0
  split <;> first
   | rfl
   | (rename_i e;cases e;show RCode.cond _ (mkX0 P _ _).rc (mkX0 P _ _).rc=_;rw [ih1,ih2];done)
   | (rename_i e;cases e;done)
   | (rename_i e _;cases e;done)
 | block id b ih =>
  intro rc
  unfold mkX0
  split <;> first
   | rfl
   | (rename_i e;cases e;show RCode.block _ (mkX0 P _ _).rc=_;rw [ih];done)
   | (rename_i e;cases e;done)
   | (rename_i e _;cases e;done)
 | loop b ih =>
  intro rc
  unfold mkX0
  split <;> first
   | rfl
   | (rename_i e;cases e;show RCode.loop (mkX0 P _ _).rc=_;rw [ih];done)
   | (rename_i e;cases e;done)
   | (rename_i e _;cases e;done)
 | scope b ih =>
  intro rc
  unfold mkX0
  split <;> first
   | rfl
   | (rename_i e;cases e;show RCode.scope (mkX0 P _ _).rc=_;rw [ih];done)
   | (rename_i e;cases e;done)
   | (rename_i e _;cases e;done)
 | region id ops dr =>
  intro rc
  cases rc <;> first | rfl | (show RCode.reg _ ((zipT _ _).map XRO.ro)=_;rw [zipT_ro];done) | (show RCode.regP ((zipT _ _).map XRO.ro)=_;rw [zipT_ro];done) | (show RCode.regDP ((zipT _ _).map XRO.ro)=_;rw [zipT_ro];done) | (show RCode.regS _ ((zipT _ _).map XRO.ro)=_;rw [zipT_ro];done) | (show RCode.regN ((zipT _ _).map XRO.ro)=_;rw [zipT_ro];done) | (show RCode.regY ((zipT _ _).map XRO.ro)=_;rw [zipT_ro];done) | (show RCode.regM ((zipT _ _).map XRO.ro) _=_;rw [zipT_ro];done)
 | _=>intro rc;cases rc <;> rfl
def annX (A:List Ann):Nat->XC->XC
 | n,.seq a b=>match annAt A n with
  | some x=>.join x.pure x.m (annX A (n + 1) a) (annX A (n + 1 + a.cnt) b)
  | none=>.seq (annX A (n + 1) a) (annX A (n + 1 + a.cnt) b)
 | n,.cond c a b=>.cond c (annX A n a) (annX A (n + a.cnt) b)
 | n,.block id b=>.block id (annX A n b)
 | n,.loop m b=>match annAt A n with
  | some x=>.loop x.m (annX A (n + 1) b)
  | none=>.loop m (annX A (n + 1) b)
 | n,.scope b=>.scope (annX A n b)
 | _,c=>c
theorem annX_rc (A:List Ann):∀ (c:XC) (n:Nat),(annX A n c).rc=c.rc
 | .seq a b,n=>by
  unfold annX
  split
  ·show RCode.seq (annX A _ a).rc (.wkr (annX A _ b).rc)=_;rw [annX_rc A a,annX_rc A b];rfl
  ·show RCode.seq (annX A _ a).rc (.wkr (annX A _ b).rc)=_;rw [annX_rc A a,annX_rc A b];rfl
 | .cond c a b,n=>by show RCode.cond c (annX A _ a).rc (annX A _ b).rc=_;rw [annX_rc A a,annX_rc A b];rfl
 | .block id b,n=>by show RCode.block id (annX A _ b).rc=_;rw [annX_rc A b];rfl
 | .loop m b,n=>by
  unfold annX
  split
  ·show RCode.loop (annX A _ b).rc=_;rw [annX_rc A b];rfl
  ·show RCode.loop (annX A _ b).rc=_;rw [annX_rc A b];rfl
 | .scope b,n=>by show RCode.scope (annX A _ b).rc=_;rw [annX_rc A b];rfl
 | .join _ _ _ _,_=>rfl
 | .skip,_=>rfl
 | .reg _ _,_=>rfl
 | .regS _ _,_=>rfl
 | .regP _,_=>rfl
 | .regDP _,_=>rfl
 | .regN _,_=>rfl
 | .regY _,_=>rfl
 | .regM _ _,_=>rfl
 | .rangeF ..,_=>rfl
 | .exit _,_=>rfl
 | .ret,_=>rfl
 | .bad _,_=>rfl
theorem mkX0_wf (P:Program):∀ (c:Code) (rc:RCode),(mkX0 P c rc).Wf P:=by
 intro c
 induction c with
 | seq a b ih1 ih2 =>
  intro rc
  unfold mkX0
  split <;> first
   | trivial
   | (rename_i e;cases e;exact ⟨ih1 _,ih2 _⟩)
   | (rename_i e;cases e;done)
   | (rename_i e _;cases e;done)
 | cond c0 a b ih1 ih2 =>
  intro rc
  unfold mkX0
  split <;> first
   | trivial
   | (rename_i e;cases e;exact ⟨ih1 _,ih2 _⟩)
   | (rename_i e;cases e;done)
   | (rename_i e _;cases e;done)
 | block id b ih =>
  intro rc
  unfold mkX0
  split <;> first
   | trivial
   | (rename_i e;cases e;exact ih _)
   | (rename_i e;cases e;done)
   | (rename_i e _;cases e;done)
 | loop b ih =>
  intro rc
  unfold mkX0
  split <;> first
   | trivial
   | (rename_i e;cases e;exact ih _)
   | (rename_i e;cases e;done)
   | (rename_i e _;cases e;done)
 | scope b ih =>
  intro rc
  unfold mkX0
  split <;> first
   | trivial
   | (rename_i e;cases e;exact ih _)
   | (rename_i e;cases e;done)
   | (rename_i e _;cases e;done)
 | _=>intro rc;cases rc <;> trivial
theorem annX_wf (P:Program) (A:List Ann):∀ (c:XC) (n:Nat),c.Wf P->(annX A n c).Wf P
 | .seq a b,n,h=>by
  unfold annX
  split
  ·exact ⟨annX_wf P A a _ h.1,annX_wf P A b _ h.2⟩
  ·exact ⟨annX_wf P A a _ h.1,annX_wf P A b _ h.2⟩
 | .cond c a b,n,h=>⟨annX_wf P A a _ h.1,annX_wf P A b _ h.2⟩
 | .block id b,n,h=>annX_wf P A b n h
 | .loop m b,n,h=>by
  unfold annX
  split
  ·exact annX_wf P A b (n + 1) h
  ·exact annX_wf P A b (n + 1) h
 | .scope b,n,h=>annX_wf P A b n h
 | .join _ _ _ _,_,h=>h
 | .skip,_,h=>h
 | .reg _ _,_,h=>h
 | .regS _ _,_,h=>h
 | .regP _,_,h=>h
 | .regDP _,_,h=>h
 | .regN _,_,h=>h
 | .regY _,_,h=>h
 | .regM _ _,_,h=>h
 | .rangeF ..,_,h=>h
 | .exit _,_,h=>h
 | .ret,_,h=>h
 | .bad _,_,h=>h
def rfAt:List (Nat × Nat × List Nat)->Nat->Option (Nat × List Nat)
 | [],_=>none
 | (p,f) :: r,n=>match Nat.beq p n with
  | true=>some f
  | false=>rfAt r n
def rfOk (P : Program) (fn : Func) (g : Operand) (N0 : Nat) : Bool := !(fn.name == "runtime.NumGoroutine") && P.follows .mixedOrders && Nat.beq fn.results.size 0 && g.inN N0
def mkRF2 (P:Program) (fl:List Nat) (A:List Ann) (n N0:Nat) (g:Operand) (ps:Array Tmp) (ca cb:Code) (f:Nat) (fl2:List Nat) (rc:RCode):XC:=match P.funcs[f]? with
 | some fn=>match fn.body with
  | some c2=>match resolveCode P fl2 fn.ntmps c2,resolveCode P fl N0 ca,resolveCode P fl N0 cb,rfOk P fn g N0 with
   | some it,some a,some b,true=>.rangeF N0 g ps ca cb f fn.ntmps (annX A (100000 * (n + 1) + 30000) (mkX0 P ca a)) (annX A (100000 * (n + 1) + 60000) (mkX0 P cb b)) (annX A (100000 * (n + 1)) (mkX0 P c2 it))
   | _,_,_,_=>.bad rc
  | none=>.bad rc
 | none=>.bad rc
def mkRF (P:Program) (fl:List Nat) (A:List Ann) (n:Nat) (q:Option (Nat × List Nat)) (rc:RCode):XC:=match rc,q with
 | .sem N0 (.rangeFunc g ps ca cb),some (f,fl2)=>mkRF2 P fl A n N0 g ps ca cb f fl2 rc
 | rc,_=>.bad rc
theorem mkRF_ok (P:Program) (fl:List Nat) (A:List Ann) (n:Nat) (q:Option (Nat × List Nat)) (rc:RCode):(mkRF P fl A n q rc).rc=rc/\(mkRF P fl A n q rc).Wf P:=by
 unfold mkRF
 split
 case h_2=>exact ⟨rfl,trivial⟩
 unfold mkRF2
 split
 case h_2=>exact ⟨rfl,trivial⟩
 rename_i fn hf
 split
 case h_2=>exact ⟨rfl,trivial⟩
 rename_i c2 hc
 split
 case h_2=>exact ⟨rfl,trivial⟩
 rename_i it a b h1 h2 h3 h4
 refine ⟨rfl,⟨_,fl,fn,c2,hf,hc,?_,?_,by rw [annX_rc,mkX0_rc];exact h1,by rw [annX_rc,mkX0_rc];exact h2,by rw [annX_rc,mkX0_rc];exact h3,?_,?_,rfl⟩,annX_wf P A _ _ (mkX0_wf P _ _),annX_wf P A _ _ (mkX0_wf P _ _),annX_wf P A _ _ (mkX0_wf P _ _)⟩ <;> unfold rfOk at h4 <;> simp only [Bool.and_eq_true,Bool.not_eq_true'] at h4
 ·exact h4.1.1.1
 ·exact h4.1.1.2
 ·exact Array.eq_empty_of_size_eq_zero (Nat.eq_of_beq_eq_true h4.1.2)
 ·exact h4.2
def annF (P:Program) (fl:List Nat) (F:List (Nat × Nat × List Nat)) (A:List Ann):Nat->XC->XC
 | n,.seq a b=>match annAt A n with
  | some x=>.join x.pure x.m (annF P fl F A (n + 1) a) (annF P fl F A (n + 1 + a.cnt) b)
  | none=>.seq (annF P fl F A (n + 1) a) (annF P fl F A (n + 1 + a.cnt) b)
 | n,.cond c a b=>.cond c (annF P fl F A n a) (annF P fl F A (n + a.cnt) b)
 | n,.block id b=>.block id (annF P fl F A n b)
 | n,.loop m b=>match annAt A n with
  | some x=>.loop x.m (annF P fl F A (n + 1) b)
  | none=>.loop m (annF P fl F A (n + 1) b)
 | n,.scope b=>.scope (annF P fl F A n b)
 | n,.bad rc=>mkRF P fl A n (rfAt F n) rc
 | _,c=>c
theorem annF_ok (P:Program) (fl:List Nat) (F:List (Nat × Nat × List Nat)) (A:List Ann):∀ (c:XC) (n:Nat),c.Wf P->(annF P fl F A n c).rc=c.rc/\(annF P fl F A n c).Wf P
 | .seq a b,n,h=>by
  have h1:=annF_ok P fl F A a (n + 1) h.1
  have h2:=annF_ok P fl F A b (n + 1 + a.cnt) h.2
  unfold annF
  split
  ·exact ⟨by show RCode.seq _ (.wkr _)=_;rw [h1.1,h2.1];rfl,h1.2,h2.2⟩
  ·exact ⟨by show RCode.seq _ (.wkr _)=_;rw [h1.1,h2.1];rfl,h1.2,h2.2⟩
 | .cond c a b,n,h=>by
  have h1:=annF_ok P fl F A a n h.1
  have h2:=annF_ok P fl F A b (n + a.cnt) h.2
  exact ⟨by show RCode.cond c _ _=_;rw [h1.1,h2.1];rfl,h1.2,h2.2⟩
 | .block id b,n,h=>by
  have h1:=annF_ok P fl F A b n h
  exact ⟨by show RCode.block id _=_;rw [h1.1];rfl,h1.2⟩
 | .loop m b,n,h=>by
  have h1:=annF_ok P fl F A b (n + 1) h
  unfold annF
  split
  ·exact ⟨by show RCode.loop _=_;rw [h1.1];rfl,h1.2⟩
  ·exact ⟨by show RCode.loop _=_;rw [h1.1];rfl,h1.2⟩
 | .scope b,n,h=>by
  have h1:=annF_ok P fl F A b n h
  exact ⟨by show RCode.scope _=_;rw [h1.1];rfl,h1.2⟩
 | .bad rc,n,_=>mkRF_ok P fl A n _ rc
 | .join _ _ _ _,_,h=>⟨rfl,h⟩
 | .skip,_,h=>⟨rfl,h⟩
 | .reg _ _,_,h=>⟨rfl,h⟩
 | .regS _ _,_,h=>⟨rfl,h⟩
 | .regP _,_,h=>⟨rfl,h⟩
 | .regDP _,_,h=>⟨rfl,h⟩
 | .regN _,_,h=>⟨rfl,h⟩
 | .regY _,_,h=>⟨rfl,h⟩
 | .regM _ _,_,h=>⟨rfl,h⟩
 | .rangeF ..,_,h=>⟨rfl,h⟩
 | .exit _,_,h=>⟨rfl,h⟩
 | .ret,_,h=>⟨rfl,h⟩
def mkX (P:Program) (fl:List Nat) (F:List (Nat × Nat × List Nat)) (A:List Ann) (c:Code) (rc:RCode):XC:=annF P fl F A 0 (mkX0 P c rc)
theorem mkX_rc (P:Program) (fl:List Nat) (F:List (Nat × Nat × List Nat)) (A:List Ann) (c:Code) (rc:RCode):(mkX P fl F A c rc).rc=rc:=by
 unfold mkX;rw [(annF_ok P fl F A _ 0 (mkX0_wf P c rc)).1,mkX0_rc]
theorem mkX_wf (P:Program) (fl:List Nat) (F:List (Nat × Nat × List Nat)) (A:List Ann) (c:Code) (rc:RCode):(mkX P fl F A c rc).Wf P:=(annF_ok P fl F A _ 0 (mkX0_wf P c rc)).2
end Go.Eng

namespace Go.Eng
open Go.RowKit
variable {R:Type}

theorem Wk.any {s s':AState} (hb:∀ i,s'.bs i=s.bs i) (ho:∀ i,s'.own i=s.own i) (hn:s'.nx=s.nx) (he:∀ t,s'.env t=s.env t\/s'.env t=.any):Wk s s':=fun E a w ⟨G,m,h⟩=>by
 have hlk:s'.lk=s.lk:=by funext x;cases x with | B i=>exact hb i | O i=>exact ho i
 refine ⟨G,m,hlk ▸ h.sim,fun t=>?_,h.size,h.defers,?_,fun i hi=>h.fresh i (hn ▸ hi),h.frame,h.base,h.own,h.noO,fun i hi=>(ho i).trans (h.nxOk i (hn ▸ hi))⟩
 ·rcases he t with e | e
  ·rw [e];exact h.env t
  ·rw [e];unfold AV.Rep;trivial
 ·rcases he E.N with e | e
  ·rw [e];exact h.jok
  ·rw [e];exact E.Jany _ _ h.jok
def posE:Nat->List XV->List (Nat × XV)
 | _,[]=>[]
 | n,v :: vs=>(n,v) :: posE (n + 1) vs
theorem posE_get:∀ (vs:List XV) (n t:Nat),eget (posE n vs) t=if n <= t then xvAt vs (t - n) else .any
 | [],n,t=>by
  show XV.any=_
  split
  ·cases t - n <;> rfl
  ·rfl
 | v :: vs,n,t=>by
  show (if Nat.beq t n=true then v else eget (posE (n + 1) vs) t)=_
  rw [posE_get vs (n + 1) t]
  by_cases h:t=n
  ·rw [if_pos (by rw [Nat.beq_eq];exact h),if_pos (by omega),show t - n=0 by omega];rfl
  ·rw [if_neg (by rw [Nat.beq_eq];exact h)]
   by_cases h2:n + 1 <= t
   ·rw [if_pos h2,if_pos (by omega),show t - n=(t - (n + 1)) + 1 by omega];rfl
   ·rw [if_neg h2,if_neg (by omega)]
def upTo:Nat->Nat->List Nat
 | _,0=>[]
 | n,k + 1=>n :: upTo (n + 1) k
theorem upTo_get:∀ (k n i:Nat),(upTo n k)[i]?=if i < k then some (n + i) else none
 | 0,n,i=>by simp [upTo]
 | k + 1,n,0=>by simp [upTo]
 | k + 1,n,i + 1=>by
  show (upTo (n + 1) k)[i]?=_
  rw [upTo_get k (n + 1) i]
  by_cases h:i < k
  ·rw [if_pos h,if_pos (by omega),show n + 1 + i=n + (i + 1) by omega]
  ·rw [if_neg h,if_neg (by omega)]
theorem upTo_mem {k n j:Nat}:j ∈ upTo n k ↔ n <= j/\j < n + k:=by
 induction k generalizing n with
 | zero=>simp [upTo]
 | succ k ih =>
  show j ∈ n :: upTo (n + 1) k ↔ _
  rw [List.mem_cons,ih];omega
theorem upTo_nodup:∀ (k n:Nat),(upTo n k).Nodup
 | 0,_=>List.nodup_nil
 | k + 1,n=>List.nodup_cons.2 ⟨fun h=>by have:=(upTo_mem.1 h).1;omega,upTo_nodup k (n + 1)⟩
theorem upTo_len:∀ (k n:Nat),(upTo n k).length=k
 | 0,_=>rfl
 | k + 1,n=>congrArg (· + 1) (upTo_len k (n + 1))
def renVs (ψ:Hd->Hd):List XV->List XV
 | []=>[]
 | v :: vs=>v.ren ψ :: renVs ψ vs
def renBs (ψ:Hd->Hd):List (Option XB)->List (Option XB)
 | []=>[]
 | none :: r=>none :: renBs ψ r
 | some b :: r=>some (b.ren ψ) :: renBs ψ r
theorem renBs_get [YL] (ψ:Hd->Hd):∀ (l:List (Option XB)) (i:Nat),(bget (renBs ψ l) i).map XB.er=((bget l i).map XB.er).map (Blk.ren ψ)
 | [],_=>rfl
 | none :: _,0=>rfl
 | some b :: _,0=>congrArg some (renB_er ψ b)
 | none :: r,i + 1=>renBs_get ψ r i
 | some _ :: r,i + 1=>renBs_get ψ r i
def keepN:Nat->List (Option XB)->List (Option XB)
 | _,[]=>[]
 | 0,_ :: r=>none :: keepN 0 r
 | d + 1,b :: r=>b :: keepN d r
def dropN:Nat->List (Option XB)->List (Option XB)
 | 0,l=>l
 | _ + 1,[]=>[]
 | d + 1,_ :: r=>dropN d r
theorem keepN_get:∀ (d:Nat) (l:List (Option XB)) (i:Nat),bget (keepN d l) i=if i < d then bget l i else none
 | 0,[],_=>rfl
 | d + 1,[],i=>by show none=if i < d + 1 then none else none;split <;> rfl
 | 0,_ :: r,0=>rfl
 | 0,_ :: r,i + 1=>by
  show bget (keepN 0 r) i=_
  rw [keepN_get 0 r i]
  simp
 | d + 1,b :: r,0=>rfl
 | d + 1,b :: r,i + 1=>by
  show bget (keepN d r) i=_
  rw [keepN_get d r i]
  by_cases h:i < d
  ·rw [if_pos h,if_pos (by omega)];rfl
  ·rw [if_neg h,if_neg (by omega)]
theorem dropN_get:∀ (d:Nat) (l:List (Option XB)) (i:Nat),bget (dropN d l) i=bget l (d + i)
 | 0,l,i=>by rw [Nat.zero_add];rfl
 | d + 1,[],i=>by
  show none=bget [] _
  cases d + 1 + i <;> rfl
 | d + 1,b :: r,i=>by
  show bget (dropN d r) i=_
  rw [dropN_get d r i,show d + 1 + i=(d + i) + 1 by omega];rfl
theorem dropN_len:∀ (d:Nat) (l:List (Option XB)),(dropN d l).length=l.length - d
 | 0,l=>rfl
 | d + 1,[]=>by simp [dropN]
 | d + 1,b :: r=>by show (dropN d r).length=_;rw [dropN_len d r];simp
def stS (d:Nat) (s:XS):XS :=
 let ψ:=mvPsi (upTo d (s.bs.length - d))
 {env:=posE 0 (renVs ψ (snds s.env)),bs:=renBs ψ (keepN d s.bs),own:=renBs ψ (dropN d s.bs) }
theorem renVs_at [YL] (ψ:Hd->Hd):∀ (vs:List XV) (i:Nat),i < vs.length->(xvAt (renVs ψ vs) i).er=AV.ren ψ (xvAt vs i).er
 | [],_,h=>by simp at h
 | v :: _,0,_=>ren_er ψ v
 | _ :: vs,i + 1,h=>renVs_at ψ vs i (by simpa using h)
theorem renVs_len (ψ:Hd->Hd):∀ vs:List XV,(renVs ψ vs).length=vs.length
 | []=>rfl
 | _ :: vs=>congrArg (· + 1) (renVs_len ψ vs)
theorem xvAt_ge:∀ (vs:List XV) (i:Nat),vs.length <= i->xvAt vs i=.any
 | [],i,_=>by cases i <;> rfl
 | _ :: _,0,h=>by simp at h
 | _ :: vs,i + 1,h=>xvAt_ge vs i (by simpa using h)
theorem snds_map {α:Type} (f:XV->α):∀ l:List (Nat × XV),(snds l).map f=l.map fun p=>f p.2
 | []=>rfl
 | p :: l=>congrArg (f p.2 :: ·) (snds_map f l)
theorem renBs_len (ψ:Hd->Hd):∀ l:List (Option XB),(renBs ψ l).length=l.length
 | []=>rfl
 | none :: l=>congrArg (· + 1) (renBs_len ψ l)
 | some _ :: l=>congrArg (· + 1) (renBs_len ψ l)
theorem stS_ok [YL] (d:Nat) (s:XS):Wk (entry (s.env.map fun p=>p.2.er) (erB s.bs)) (stS d s).er:=by
 have h1:=entryM_ok (s.env.map fun p=>p.2.er) (erB s.bs) (upTo d (s.bs.length - d)) (upTo_nodup _ _)
 refine h1.trans (Wk.any (fun i=>?_) (fun i=>?_) ?_ fun t=>?_)
 ·show (bget (renBs _ (keepN d s.bs)) i).map XB.er=if i ∈ upTo d (s.bs.length - d) then none else (((erB s.bs)[i]?).join).map _
  rw [renBs_get,keepN_get,bget_er]
  by_cases hd:i < d
  ·rw [if_pos hd,if_neg (fun h=>by have:=(upTo_mem.1 h).1;omega)]
  ·rw [if_neg hd]
   by_cases h2:i < s.bs.length
   ·rw [if_pos (upTo_mem.2 ⟨by omega,by omega⟩)];rfl
   ·rw [if_neg (fun h=>by have:=(upTo_mem.1 h).2;omega),bget_ge _ _ (by omega)]
 ·show (bget (renBs _ (dropN d s.bs)) i).map XB.er=((upTo d (s.bs.length - d))[i]?).bind fun j=>(((erB s.bs)[j]?).join).map _
  rw [renBs_get,dropN_get,upTo_get]
  by_cases h:i < s.bs.length - d
  ·rw [if_pos h]
   show _=(((erB s.bs)[d + i]?).join).map _
   rw [bget_er]
  ·rw [if_neg h,bget_ge _ _ (by omega)];rfl
 ·show (renBs _ (dropN d s.bs)).length=(upTo d (s.bs.length - d)).length
  rw [renBs_len,dropN_len,upTo_len]
 ·show (eget (posE 0 (renVs _ (snds s.env))) t).er=(AV.renL _ (s.env.map fun p=>p.2.er)).getD t .un\/(eget (posE 0 (renVs _ (snds s.env))) t).er=.any
  rw [posE_get,if_pos (Nat.zero_le _),Nat.sub_zero]
  by_cases h:t < (snds s.env).length
  ·left
   rw [renVs_at _ _ _ h,renL_get,<- snds_map XV.er]
   congr 1
   have:∀ (l:List XV) (i:Nat),i < l.length->(xvAt l i).er=(l.map XV.er).getD i .un:=fun l=>by
    induction l with
    | nil=>intro i h;simp at h
    | cons v l ih =>
     intro i h
     cases i with
     | zero=>rfl
     | succ i =>
      have:=ih i (by simpa using h)
      show (xvAt l i).er=(v.er :: l.map XV.er).getD (i + 1) .un
      rw [this,List.getD_cons_succ]
   exact this _ _ h
  ·right
   rw [xvAt_ge _ _ (by rw [renVs_len];omega)];rfl

def xresult (s:XS):RRes->Option XV
 | .tmp t=>some (eget s.env t)
 | .cell ag t=>match eget s.env t with
  | .ptr h off=>match s.lk h with
   | some (.box cs)=>xcut ag cs off some
   | _=>none
  | .apt h 0=>match s.lk h,ag with
   | some (.arr _ n k x),some m=>match Nat.beq m n with
    | true=>some (.d (.ar n k) x)
    | false=>none
   | _,_=>none
  | .rpt h off=>match s.lk h,ag with
   | some (.rb _ t x),some m=>xcut (some m) (lvs t x) off some
   | _,_=>none
  | _=>none
def xresults (s:XS):List RRes->Option (List XV)
 | []=>some []
 | r :: rs=>match xresult s r,xresults s rs with
  | some v,some vs=>some (v :: vs)
  | _,_=>none
theorem xresult_ok [YL] {s:XS} {r:RRes} {v:XV} (h:xresult s r=some v):aresult s.er r=some v.er:=by
 unfold xresult at h
 split at h
 ·cases h;rfl
 ·rename_i ag t
  split at h
  ·rename_i hd off ht
   split at h
   ·rename_i cs hl
    obtain ⟨v',h1,h2⟩:=xcut_ok h
    cases h1
    have e1:s.er.env t=.ptr hd off:=by show (eget s.env t).er=_;rw [ht];rfl
    have e2:s.er.lk hd=some (.box (XV.fcL cs)):=by rw [lk_er,hl];rfl
    simp only [aresult,e1,e2]
    cases ag with
    | none=>exact h2
    | some n =>
     obtain ⟨h3,h4⟩:=h2
     simp only
     rw [if_pos h3,h4]
   ·cases h
  ·rename_i hd ht
   split at h
   ·rename_i mt n k x m hl
    split at h
    ·rename_i hb
     obtain rfl:=Nat.eq_of_beq_eq_true hb
     cases h
     have e1:s.er.env t=.eptr hd 1 0 0:=by show (eget s.env t).er=_;rw [ht];rfl
     have e2:s.er.lk hd=some (.row mt 1 (x.l.map (arD k))):=by rw [lk_er,hl];rfl
     simp only [aresult,e1,e2]
     have hx:=x.len
     rw [if_pos ⟨trivial,trivial,trivial,by rw [List.length_map];omega⟩,List.drop_zero,List.take_of_length_le (by rw [List.length_map];omega),arr_flat]
     rfl
    ·cases h
   ·cases h
  ·rename_i hd off ht
   split at h
   ·rename_i mt t2 x m hl
    obtain ⟨v',h1,h2,h3⟩:=xcut_ok h
    cases h1
    have e1:s.er.env t=.eptr hd 1 off 0:=by show (eget s.env t).er=_;rw [ht];rfl
    have e2:s.er.lk hd=some (.row mt 1 (sgD (t2.ds x))):=by rw [lk_er,hl];rfl
    rw [fcL_lvs] at h2 h3
    rw [List.length_map] at h2
    simp only [aresult,e1,e2]
    rw [if_pos ⟨trivial,trivial,trivial,by rw [sgD_len];exact h2⟩,sgD_cut,sgD_flat,h3,List.map_take,List.map_drop]
   ·cases h
  ·cases h
theorem xresults_ok [YL] {s:XS}:∀ {rs:List RRes} {vs:List XV},xresults s rs=some vs->aresults s.er rs=some (XV.erL vs)
 | [],vs,h=>by cases h;rfl
 | r :: rs,vs,h=>by
  unfold xresults at h
  split at h
  ·rename_i v vs' h1 h2
   cases h
   show (match aresult s.er r,aresults s.er rs with | some a,some as=>some (a :: as) | _,_=>none)=_
   rw [xresult_ok h1,xresults_ok h2];rfl
  ·cases h
def nzR:List (Nat × XV)->List RRes->XS->XS
 | (_,m) :: ms,r :: rs,s=>match m,r with
  | .slw _ t _,.tmp n=>match eget s.env n with
   | .fln _=>nzR ms rs (s.put (some n) (.slw (.O s.own.length) t 0) [.row true t []] [])
   | .sl h t 0 len=>nzR ms rs (truncX s n h t len)
   | _=>nzR ms rs s
  | _,_=>nzR ms rs s
 | _,_,s=>s
theorem nzR_ok [YL]:∀ (ms:List (Nat × XV)) (rs:List RRes) (s:XS),Wk s.er (nzR ms rs s).er
 | [],_,s=>by unfold nzR;exact Wk.refl _
 | _ :: _,[],s=>by unfold nzR;exact Wk.refl _
 | (_,m) :: ms,r :: rs,s=>by
  unfold nzR
  split
  ·split
   ·rename_i h
    refine Wk.trans ?_ (nzR_ok ms rs _)
    rw [er_put]
    exact AState.own0_ok s.er _ _ (by show (eget s.env _).er=_;rw [h];rfl)
   ·rename_i h
    exact (truncX_ok h).trans (nzR_ok ms rs _)
   ·exact nzR_ok ms rs s
  ·exact nzR_ok ms rs s
def resAt (rs:List RRes) (s:XS) (n:Nat):XV:=match xresults s rs with
 | some vs=>xvAt vs n
 | none=>.any
def resOk (rs:List RRes) (m:XS) (n:Nat) (s:XS):Bool:=match xresults s rs with
 | some vs=>keysOk 0 m.env vs && Nat.beq s.bs.length n
 | none=>false
def nzF1 (rs:List RRes) (m s:XS):NZ:=⟨s,asgE vrO (resAt rs s) m.env (nones m.own)⟩
def nzF (rs:List RRes) (m s:XS):NZ:=nzL2 vrO 0 m.own (nzL1 vrO 0 m.bs (nzF1 rs m (nzR m.env rs s)))
def fin2 (rs:List RRes) (m:XS) (n:Nat) (K:tup m.tys->Option R) (st:NZ):Option R:=match resOk rs m n st.s with
 | true=>rd1 m (resAt rs) st K
 | false=>none
def sameB:Hd->Hd->Bool
 | .B i,.B j=>Nat.beq i j
 | .O _,.O _=>true
 | _,_=>false
def ptrB:List XV->List XV->Bool
 | [],_=>true
 | _ :: _,[]=>false
 | m :: ms,v :: vs=>(match m,v with
  | .ptr h _,.ptr h' _=>sameB h h'
  | .apt h _,.apt h' _=>sameB h h'
  | .rpt h _,.rpt h' _=>sameB h h'
  | _,_=>true) && ptrB ms vs
def fitR (rs:List RRes) (m s:XS):Bool:=match xresults s rs with
 | some vs=>fitL (snds m.env) vs && ptrB (snds m.env) vs
 | none=>false
def finA (rs:List RRes) (n:Nat):(l:List XS)->XS->(RT l->Option R)->Option R
 | [],_,_=>none
 | [m],s,K=>fin2 rs m n (fun v=>K (toR m.tys v)) (nzF rs m s)
 | m :: m2 :: l,s,K=>match fitR rs m s with
  | true=>fin2 rs m n (fun v=>K (.inl (toR m.tys v))) (nzF rs m s)
  | false=>finA rs n (m2 :: l) s fun r=>K (.inr r)
def pvEq:Value->Value->Bool
 | .iface t (.agg a),.iface t' (.agg c)=>Nat.beq t t' && (a.isEmpty && c.isEmpty)
 | _,_=>false
theorem pvEq_ok {v w:Value} (h:pvEq v w=true):v=w:=by
 unfold pvEq at h
 split at h
 ·rename_i t a t' c
  rw [Bool.and_eq_true,Bool.and_eq_true] at h
  obtain ⟨h1,h2,h3⟩:=h
  rw [Nat.eq_of_beq_eq_true h1,Array.isEmpty_iff.1 h2,Array.isEmpty_iff.1 h3]
 ·cases h
def finP (pv:Value):(l:List XS)->(RT l->Option R)->Option R
 | [],_=>none
 | [m],K=>match m.pv,m.own,tupOf m.tys [] with
  | some w,[],some v=>match pvEq w pv with
   | true=>K (toR m.tys v)
   | false=>none
  | _,_,_=>none
 | m :: m2 :: l,K=>match m.pv,m.own,tupOf m.tys [] with
  | some w,[],some v=>match pvEq w pv with
   | true=>K (.inl (toR m.tys v))
   | false=>finP pv (m2 :: l) fun r=>K (.inr r)
  | _,_,_=>finP pv (m2 :: l) fun r=>K (.inr r)
def xfin (rs:List RRes) (n:Nat) (out:List XS):Exit->XS->Option (RT out)
 | .normal,s=>finA rs n out s some
 | .ret,s=>finA rs n out s some
 | _,_=>none
def xfinP (rs:List RRes) (out:List XS):Exit->XS->Option (RT out)
 | .normal,s=>finA rs 0 out s some
 | .ret,s=>finA rs 0 out s some
 | .panic [⟨v,false,false⟩],_=>finP v out some
 | _,_=>none
def anyPv:List XS->Bool
 | []=>false
 | o :: l=>o.pv.isSome || anyPv l
def tupV [YL]:List XV->AV
 | [v]=>v.er
 | vs=>.tup (XV.erL vs)
theorem aret_ok [YL] {s:XS} {rs:List RRes} {vs:List XV} (h:aresults s.er rs=some (XV.erL vs)):aret s.er rs=some (tupV vs):=by
 unfold aret
 rw [h]
 match vs with
 | []=>rfl
 | [_]=>rfl
 | _ :: _ :: _=>rfl
theorem pv_none {m:XS} {vs:List XV} (h:keysOk 0 m.env vs=true) (v:tup m.tys):(m.fill v).pv=none:=by
 unfold XS.pv
 split
 ·rename_i k u he
  have he:(filE _ m.env _).1=[(k,.c u)]:=he
  generalize m.env=l at h he
  cases l with
  | nil=>cases he
  | cons p l =>
   obtain ⟨k0,v0⟩:=p
   cases vs with
   | nil=>cases h
   | cons a vs =>
    have h:(Nat.beq k0 0 && keysOk 1 l vs)=true:=h
    rw [Bool.and_eq_true] at h
    have h1:=Nat.eq_of_beq_eq_true h.1
    have h2:=congrArg (fun l=>l.map Prod.fst) he
    have h2:k0 :: _=[k]:=h2
    have:k0=k:=(List.cons.inj h2).1
    rw [<- this,h1]
 ·rfl
theorem fin2_ok [YL] {rs:List RRes} {m s:XS} {n:Nat} {K:tup m.tys->Option R} {r:R} (h:fin2 rs m n K (nzF rs m s)=some r):∃ v,K v=some r/\(m.fill v).pv=none/\∀ (e:Exit),(e=.normal\/e=.ret)->∀ nbs:List Blk,nbs.map some=erB (m.fill v).own ->
  AEndW n rs (XV.val (m.fill v).env).er (erB (m.fill v).bs) nbs e s.er:=by
 unfold fin2 at h
 split at h
 case h_2=>cases h
 rename_i hok
 obtain ⟨v,sl,h,hr⟩:=rd1_ok h
 have hw:Wk s.er (nzF rs m s).s.er:=(nzR_ok m.env rs s).trans ((nzL1_ok vrO m.bs 0 (nzF1 rs m (nzR m.env rs s))).trans (nzL2_ok vrO _ _ _))
 generalize (nzF rs m s)=st at hok hr hw
 unfold resOk at hok
 split at hok
 case h_2=>cases hok
 rename_i vs hvs
 rw [Bool.and_eq_true] at hok
 obtain ⟨hk,hb⟩:=hok
 refine ⟨v,h,pv_none hk v,fun e he nbs hn=>⟨st.s.er,hw,he,sl,?_⟩⟩
 have hb:=Nat.eq_of_beq_eq_true hb
 have hres:resAt rs st.s=xvAt vs:=by funext i;unfold resAt;rw [hvs]
 have henv:(m.fill v).env.map (fun p=>p.2.er)=vs.map fun v=>AV.conv st.s.er.lk (phi sl) v.er:=by
  have:=congrArg (fun l=>l.map (fun p:Nat × AV=>p.2)) hr.env
  simp only [List.map_map] at this
  rw [hres] at this
  rw [<- keysOk_ok (f:=fun v=>AV.conv st.s.er.lk (phi sl) v.er) hk (ev:=xvAt vs) fun i _=>by rw [Nat.zero_add]]
  exact this
 refine ⟨_,hr.nd,aret_ok (xresults_ok hvs),?_,?_,?_⟩
 ·generalize hf:(m.fill v).env=fe at henv
  have hl:∀ l:List (Nat × XV),XV.erL (l.map (·.2))=l.map fun p=>p.2.er:=fun l=>by
   induction l with
   | nil=>rfl
   | cons p l ih=>show p.2.er :: XV.erL (l.map (·.2))=_;rw [ih];rfl
  cases vs with
  | nil=>cases fe with
   | nil=>rfl
   | cons p fe=>cases henv
  | cons a vs=>cases fe with
   | nil=>cases henv
   | cons p fe=>cases vs with
    | nil=>cases fe with
     | nil=>exact (List.head_eq_of_cons_eq henv).symm
     | cons p2 fe=>exact absurd (congrArg List.length henv) (by simp)
    | cons a2 vs=>cases fe with
     | nil=>exact absurd (congrArg List.length henv) (by simp)
     | cons p2 fe =>
      show AV.tup (AV.convL _ _ (XV.erL (a :: a2 :: vs)))=AV.tup (XV.erL ((p :: p2 :: fe).map (·.2)))
      rw [convL_eq,<- henv,hl]
 ·rw [hr.bs]
  apply List.ext_getElem?
  intro i
  rw [List.getElem?_map,List.getElem?_map]
  by_cases hi:i < n
  ·rw [List.getElem?_range hi]
   have h2:=bget_er st.s.bs i
   have hl:i < (erB st.s.bs).length:=by show i < (List.map _ _).length;rw [List.length_map];omega
   rw [List.getElem?_eq_getElem hl] at h2 |-
   have h2:(erB st.s.bs)[i]=(bget st.s.bs i).map XB.er:=h2
   rw [h2];rfl
  ·rw [List.getElem?_eq_none (by rw [List.length_range];omega),List.getElem?_eq_none (by show (List.map _ _).length <= i;rw [List.length_map];omega)];rfl
 ·rw [hn,hr.own]
  have:∀ l:List Nat,(erB (ownAt st.s l)).map (fun b=>b.map (Blk.conv st.s.er.lk (phi sl)))=l.map fun j=>(st.s.er.own j).map (Blk.conv st.s.er.lk (phi sl)):=fun l=>by
   induction l with
   | nil=>rfl
   | cons j l ih=>show _ :: List.map _ (erB (ownAt st.s l))=_ :: _;rw [ih];rfl
  exact (this sl).symm
theorem finA_ok [YL] {rs:List RRes} {n:Nat}:∀ {l:List XS} {s:XS} {K:RT l->Option R} {r:R},finA rs n l s K=some r->∃ x,K x=some r/\(outS l x).pv=none/\∀ (e:Exit),(e=.normal\/e=.ret)->∀ nbs:List Blk,nbs.map some=erB (outS l x).own ->
  AEndW n rs (XV.val (outS l x).env).er (erB (outS l x).bs) nbs e s.er
 | [],_,_,_,h=>by cases h
 | [m],s,K,r,h=>by
  obtain ⟨v,h,hp,hv⟩:=fin2_ok (show fin2 rs m n (fun v=>K (toR m.tys v)) (nzF rs m s)=some r from h)
  refine ⟨toR m.tys v,h,?_⟩
  have e:outS [m] (toR m.tys v)=m.fill v:=by show m.fill (ofR m.tys (toR m.tys v))=_;rw [ofR_toR]
  rw [e];exact ⟨hp,hv⟩
 | m :: m2 :: l,s,K,r,h=>by
  unfold finA at h
  split at h
  ·obtain ⟨v,h,hp,hv⟩:=fin2_ok h
   refine ⟨.inl (toR m.tys v),h,?_⟩
   have e:outS (m :: m2 :: l) (.inl (toR m.tys v))=m.fill v:=by show m.fill (ofR m.tys (toR m.tys v))=_;rw [ofR_toR]
   rw [e];exact ⟨hp,hv⟩
  ·obtain ⟨x,h,hx⟩:=finA_ok (l:=m2 :: l) h
   exact ⟨.inr x,h,hx⟩
def xrun (N:Nat) (P:Program) (T:List Sig) (fl:List Nat) (F:List (Nat × Nat × List Nat)) (A:List Ann) (d:Nat) (fn:Func) (c:Code) (ent:XS) (out:List XS):fty ent.tys (RT out) :=
 match resolveCode P fl fn.ntmps c,resolveResN P fn.ntmps fn.results.toList with
 | some rc,some rs=>match anyPv out,ent.bs with
  | false,_=>cuF ent.tys fun v=>xcode N T (mkX P fl F A c rc) noX (stS d (ent.fill v)) (xfin rs ent.bs.length out)
  | true,[]=>cuF ent.tys fun v=>xcode N T (mkX P fl F A c rc) bodyX (stS d (ent.fill v)) (xfinP rs out)
  | _,_=>cuF ent.tys fun _=>none
 | _,_=>cuF ent.tys fun _=>none
theorem filE_len (len:Hd->Nat):∀ (l:List (Nat × XV)) (q:List DS),(filE len l q).1.length=l.length
 | [],_=>rfl
 | (_,_) :: l,q=>congrArg (· + 1) (filE_len len l _)
theorem filBs_len (len:Hd->Nat):∀ (l:List (Option XB)) (q:List DS),(filBs len l q).1.length=l.length
 | [],_=>rfl
 | none :: l,q=>congrArg (· + 1) (filBs_len len l _)
 | some _ :: l,q=>congrArg (· + 1) (filBs_len len l _)
theorem pv_fill {m:XS} {w:Value} (h:m.pv=some w) (v:tup m.tys):(m.fill v).pv=some w:=by
 unfold XS.pv at h
 split at h
 ·rename_i k u he
  split at h
  ·rename_i hk
   cases h
   have:(m.fill v).env=[(k,.c w)]:=by
    show (filE _ m.env _).1=_
    rw [he];rfl
   unfold XS.pv
   rw [this]
   show (match Nat.beq k 1000000 with | true=>some w | false=>none)=some w
   rw [hk]
  ·cases h
 ·cases h
theorem own_fill {m:XS} (h:m.own=[]) (v:tup m.tys):(m.fill v).own=[]:=by
 show (filBs _ m.own _).1=[]
 rw [h];rfl
theorem finP_ok {pv:Value}:∀ {l:List XS} {K:RT l->Option R} {r:R},finP pv l K=some r->∃ x,K x=some r/\(outS l x).pv=some pv/\(outS l x).own=[]
 | [],_,_,h=>by cases h
 | [m],K,r,h=>by
  unfold finP at h
  split at h
  case h_2=>cases h
  rename_i w v hw ho ht
  split at h
  case h_2=>cases h
  rename_i he
  refine ⟨_,h,?_⟩
  have e:outS [m] (toR m.tys v)=m.fill v:=by show m.fill (ofR m.tys (toR m.tys v))=_;rw [ofR_toR]
  rw [e,<- pvEq_ok he]
  exact ⟨pv_fill hw v,own_fill ho v⟩
 | m :: m2 :: l,K,r,h=>by
  unfold finP at h
  split at h
  ·rename_i w v hw ho ht
   split at h
   ·rename_i he
    refine ⟨_,h,?_⟩
    have e:outS (m :: m2 :: l) (.inl (toR m.tys v))=m.fill v:=by show m.fill (ofR m.tys (toR m.tys v))=_;rw [ofR_toR]
    rw [e,<- pvEq_ok he]
    exact ⟨pv_fill hw v,own_fill ho v⟩
   ·obtain ⟨x,h,hx⟩:=finP_ok (l:=m2 :: l) h
    exact ⟨.inr x,h,hx⟩
  ·obtain ⟨x,h,hx⟩:=finP_ok (l:=m2 :: l) h
   exact ⟨.inr x,h,hx⟩
abbrev pan (v:Value):Exit:=.panic [{ v:=v,recovered:=false }]
theorem fil_c {len:Hd->Nat} {u:Value}:∀ {v:XV} {l:List DS},(XV.fil len v l).1=.c u->v=.c u:=by
 intro v l h
 cases v with
 | d t x =>
  cases l with
  | nil=>cases h
  | cons p l =>
   obtain ⟨t',x'⟩:=p
   have h:xvOf t' x'=.c u:=h
   unfold xvOf at h
   split at h <;> cases h
 | c w=>exact h
 | sl hd t o n=>match l,h with
  | [],h=>cases h
  | [_],h=>cases h
  | _ :: _ :: _,h=>cases h
 | _=>cases h
theorem pv_of_fill {m:XS} {v:tup m.tys} {w:Value} (h:(m.fill v).pv=some w):m.pv=some w:=by
 unfold XS.pv at h
 split at h
 case h_2=>cases h
 rename_i k u he
 have he:(filE _ m.env _).1=[(k,.c u)]:=he
 revert he
 cases hm:m.env with
 | nil=>intro he;cases he
 | cons p l =>
  obtain ⟨k0,v0⟩:=p
  cases l with
  | nil =>
   intro he
   have he:[(k0,_)]=[(k,XV.c u)]:=he
   have h1:=(Prod.mk.inj (List.cons.inj he).1)
   have h2:=fil_c h1.2
   have h3:=h1.1
   subst h2 h3
   unfold XS.pv
   rw [hm]
   exact h
  | cons q l =>
   obtain ⟨k1,v1⟩:=q
   intro he
   exact absurd (congrArg List.length he) (by simp [filE])
theorem pv_no:∀ {l:List XS} {r:RT l},anyPv l=false->(outS l r).pv=none
 | [],_,_=>rfl
 | [m],r,h=>by
  have h:(m.pv.isSome || false)=false:=h
  rw [Bool.or_false] at h
  show (m.fill _).pv=none
  cases hp:(m.fill (ofR m.tys r)).pv with
  | none=>rfl
  | some w=>rw [pv_of_fill hp] at h;cases h
 | m :: m2 :: l,.inl r,h=>by
  have h:(m.pv.isSome || anyPv (m2 :: l))=false:=h
  rw [Bool.or_eq_false_iff] at h
  show (m.fill _).pv=none
  cases hp:(m.fill (ofR m.tys r)).pv with
  | none=>rfl
  | some w=>rw [pv_of_fill hp] at h;cases h.1
 | m :: m2 :: l,.inr r,h=>by
  have h:(m.pv.isSome || anyPv (m2 :: l))=false:=h
  rw [Bool.or_eq_false_iff] at h
  exact pv_no (l:=m2 :: l) h.2
def QEnd [YL] (rs:List RRes) (o:XS) (nbs:List Blk):Exit->AState->Prop:=fun e s=>match o.pv with
 | some pv=>e=pan pv
 | none=>AEndW 0 rs (XV.val o.env).er (erB o.bs) nbs e s
theorem xfinP_ok [YL] {rs:List RRes} {out:List XS} {r:RT out} {e:Exit} {s:XS} (h:xfinP rs out e s=some r) {nbs:List Blk} (hnbs:nbs.map some=erB (outS out r).own):QEnd rs (outS out r) nbs e s.er:=by
 unfold xfinP at h
 split at h
 ·obtain ⟨x,hx,hp,hq⟩:=finA_ok h
  cases hx
  unfold QEnd
  rw [hp]
  exact hq _ (.inl rfl) nbs hnbs
 ·obtain ⟨x,hx,hp,hq⟩:=finA_ok h
  cases hx
  unfold QEnd
  rw [hp]
  exact hq _ (.inr rfl) nbs hnbs
 ·obtain ⟨x,hx,hp,_⟩:=finP_ok h
  cases hx
  unfold QEnd
  rw [hp]
 ·cases h
theorem AOut.of_bodyX {P:Program} (fl:List Nat) {f:FuncId} {fn:Func} {c:Code} {rc:RCode} {rs:List RRes} {args:List AV} {pv:Value} {o:Option (AV × List Blk)} {bs':List (Option Blk)} (s0:AState)
  (hf : P.funcs[f]? = some fn) (hb : fn.body = some c) (hname : (fn.name == "runtime.NumGoroutine") = false) (hm : P.follows .mixedOrders = true) (hrc : resolveCode P fl fn.ntmps c = some rc) (hrs : resolveResN P fn.ntmps fn.results.toList = some rs)
  (hn:args.length <= fn.ntmps) (hw0:Wk (entry args []) s0) (h:acode P bodyY rc (fun e s=>match o with
   | some p=>AEndW 0 rs p.1 bs' p.2 e s
   | none=>e=pan pv) s0):match o with
   | some p=>ACall P f args [] p.1 bs' p.2
   | none=>APan P f args pv:=by
 have hrs0:=resN_of hrs
 cases o with
 | some p =>
  refine fun w G m vs hS hO hA=>.inl ⟨⟨fn,hf,by rw [hb];rfl,hname⟩,callsFR' (r:=none) (n:=0) (callsIn_of_wp hf hb (FR_fn none f) ?_)⟩
  have hent:=entry_ok true hn hS hO hA
  have hsim0:=hw0 _ _ _ ⟨G,m,hent⟩
  refine wpIn_mono (resolveCode_ok hm hrc none bodyY _ _ _ _ _ YOk.body rfl h hsim0) fun e a' w' ⟨s00,⟨s,hw,hq⟩,hA0⟩=>?_
  obtain ⟨G1,m1,hA'⟩:=hw _ _ _ hA0
  obtain ⟨v,hv,hp⟩:=end_ok (bs:=[]) hrs0 rfl rfl rfl rfl hS hA' hq
  have hd:a'.defers=[]:=(marks1_nil.1 hA'.defers).2.2 rfl
  rcases hq.1 with rfl | rfl <;> exact ⟨hd,v,hv,v,rfl,hp⟩
 | none =>
  refine fun w G m vs hS hO hA=>⟨⟨fn,hf,by rw [hb];rfl,hname⟩,callsFR' (r:=none) (n:=0) (callsIn_of_wp hf hb (FR_fn none f) ?_)⟩
  have hent:=entry_ok true hn hS hO hA
  have hsim0:=hw0 _ _ _ ⟨G,m,hent⟩
  refine wpIn_mono (resolveCode_ok hm hrc none bodyY _ _ _ _ _ YOk.body rfl h hsim0) fun e a' w' ⟨s,hq,G1,m1,hA'⟩=>?_
  have hq:e=.panic [{ v:=pv,recovered:=false }]:=hq
  subst hq
  have hd:a'.defers=[]:=(marks1_nil.1 hA'.defers).2.2 rfl
  exact ⟨hd,rfl,endP_ok (P:=P) rfl rfl rfl rfl hS hA' rfl rfl⟩
theorem xfunR {P : Program} (N : Nat) {T : List Sig} (hT : TblOk P T) (fl : List Nat) (A : List Ann) (d : Nat) (RF : List (Nat × Nat × List Nat)) {f : FuncId} {fn : Func} {c : Code} {ent : XS} {out : List XS} {F : fty ent.tys (RT out)} (hf : P.funcs[f]? = some fn) (hb : fn.body = some c) (hname : (fn.name == "runtime.NumGoroutine") = false) (hm : P.follows .mixedOrders = true)
  (hn:ent.env.length <= fn.ntmps) (hF:∀ a,apF ent.tys F a=apF ent.tys (xrun N P T fl RF A d fn c ent out) a):SigOk P ⟨f,ent,out,F⟩:=by
 intro _ v r h nbs hnbs
 have h:apF ent.tys F v=some r:=h
 rw [hF] at h
 unfold xrun at h
 split at h
 case h_2=>rw [apF_cuF] at h;cases h
 rename_i rc rs hrc hrs
 have hlen:(erB (ent.fill v).bs).length=ent.bs.length:=by
  show (List.map _ (filBs _ ent.bs _).1).length=_
  rw [List.length_map,filBs_len]
 have hargs:((ent.fill v).env.map fun p=>p.2.er).length <= fn.ntmps:=by
  show (List.map _ (filE _ ent.env _).1).length <= _
  rw [List.length_map,filE_len];exact hn
 show OutOk P f _ _ (outS out r) nbs
 split at h
 ·rw [apF_cuF] at h
  rename_i hany
  have hpv:(outS out r).pv=none:=pv_no hany
  unfold OutOk
  rw [hpv]
  refine ACall.of_bodyX fl _ hf hb hname hm hrc hrs hargs (stS_ok d (ent.fill v)) ?_
  have:=xcode_ok hT (mkX_wf P fl RF A c rc) _ noX noY YRel.no h (Q:=AEndW ent.bs.length rs (XV.val (outS out r).env).er (erB (outS out r).bs) nbs) fun e s' h=>by
   cases e with
   | normal =>
    obtain ⟨x,hx,_,hq⟩:=finA_ok (show finA rs ent.bs.length out s' some=some r from h)
    cases hx
    exact hq _ (.inl rfl) nbs hnbs
   | ret =>
    obtain ⟨x,hx,_,hq⟩:=finA_ok (show finA rs ent.bs.length out s' some=some r from h)
    cases hx
    exact hq _ (.inr rfl) nbs hnbs
   | _=>cases h
  rw [mkX_rc] at this
  rw [hlen]
  exact this
 ·rename_i hbs
  rw [apF_cuF] at h
  have hb0:erB (ent.fill v).bs=[]:=by rw [bs_nil hbs];rfl
  have hrun:=xcode_ok hT (mkX_wf P fl RF A c rc) _ bodyX bodyY YRel.body h (Q:=QEnd rs (outS out r) nbs) fun e s' h=>xfinP_ok h hnbs
  rw [mkX_rc] at hrun
  rw [hb0]
  have hwk:=stS_ok d (ent.fill v)
  rw [hb0] at hwk
  unfold OutOk
  cases hp:(outS out r).pv with
  | none =>
   refine AOut.of_bodyX fl (pv:=.nilIface) (o:=some ((XV.val (outS out r).env).er,nbs)) _ hf hb hname hm hrc hrs hargs hwk ?_
   have e:QEnd rs (outS out r) nbs=AEndW 0 rs (XV.val (outS out r).env).er (erB (outS out r).bs) nbs:=by
    funext e s;unfold QEnd;rw [hp]
   rw [e] at hrun
   exact hrun
  | some pv =>
   intro _
   refine AOut.of_bodyX fl (pv:=pv) (o:=none) (bs':=[]) _ hf hb hname hm hrc hrs hargs hwk ?_
   have e:QEnd rs (outS out r) nbs=fun e _=>e=pan pv:=by
    funext e s;unfold QEnd;rw [hp]
   rw [e] at hrun
   exact hrun
 ·rw [apF_cuF] at h;cases h
theorem xfun {P : Program} (N : Nat) {T : List Sig} (hT : TblOk P T) (fl : List Nat) (A : List Ann) (d : Nat) {f : FuncId} {fn : Func} {c : Code} {ent : XS} {out : List XS} {F : fty ent.tys (RT out)} (hf : P.funcs[f]? = some fn) (hb : fn.body = some c) (hname : (fn.name == "runtime.NumGoroutine") = false) (hm : P.follows .mixedOrders = true)
  (hn:ent.env.length <= fn.ntmps) (hF:∀ a,apF ent.tys F a=apF ent.tys (xrun N P T fl [] A d fn c ent out) a):SigOk P ⟨f,ent,out,F⟩:=xfunR N hT fl A d [] hf hb hname hm hn hF
def dd (t:Ty):XV:=.d t t.z
end Go.Eng

namespace Go.Eng
open Go.RowKit
variable {R:Type}
set_option linter.unusedVariables false
def DSigOk (P:Program) (u u1:FrameMode) (g:Sig):Prop:=∀ [YL] (v:tup g.ent.tys) (r:RT g.out),apF g.ent.tys g.F v=some r->(outS g.out r).own=[] ->
 DRec P g.fn ((g.ent.fill v).env.map fun p=>p.2.er) (erB (g.ent.fill v).bs) u u1 (erB (outS g.out r).bs)
def recX (t:Nat) (pv:Value) (s:XS):XS:={ env:=(t,.c pv) :: posE 0 (snds s.env),bs:=s.bs,own:=[] }
def entX (s:XS):XS:={ env:=posE 0 (snds s.env),bs:=s.bs,own:=[] }
theorem posE_er [YL] (l:List (Nat × XV)) (t:Nat):(eget (posE 0 (snds l)) t).er=(l.map fun p=>p.2.er).getD t .un\/(eget (posE 0 (snds l)) t).er=.any:=by
 rw [posE_get,if_pos (Nat.zero_le _),Nat.sub_zero]
 have:∀ (l:List (Nat × XV)) (i:Nat),(xvAt (snds l) i).er=(l.map fun p=>p.2.er).getD i .un\/(xvAt (snds l) i).er=.any:=fun l=>by
  induction l with
  | nil=>intro i;exact .inr rfl
  | cons v l ih =>
   intro i
   cases i with
   | zero=>exact .inl rfl
   | succ i =>
    rcases ih i with h | h
    ·left
     show (xvAt (snds l) i).er=(v.2.er :: l.map fun p=>p.2.er).getD (i + 1) .un
     rw [h,List.getD_cons_succ]
    ·exact .inr h
 exact this l t
theorem entX_ok [YL] (s:XS):Wk (entry (s.env.map fun p=>p.2.er) (erB s.bs)) (entX s).er:=by
 refine Wk.any (fun i=>?_) (fun i=>rfl) rfl fun t=>posE_er s.env t
 show (bget s.bs i).map XB.er=((erB s.bs)[i]?).join
 rw [bget_er]
theorem recX_ok [YL] (t:Nat) (pv:Value) (s:XS):Wk (recS (s.env.map fun p=>p.2.er) (erB s.bs) t pv) (recX t pv s).er:=by
 have e:recS (s.env.map fun p=>p.2.er) (erB s.bs) t pv={ env:=fun i=>if i=t then .D (.C pv) else (s.env.map fun p=>p.2.er).getD i .un,bs:=fun i=>((erB s.bs)[i]?).join,own:=fun _=>none,nx:=0 }:=by
  refine AState.ext' (fun i=>?_) (fun i=>?_) (fun i=>?_) rfl
  ·show upd _ t _ i=_
   unfold upd
   rfl
  ·rfl
  ·rfl
 rw [e]
 refine Wk.any (fun i=>?_) (fun i=>rfl) rfl fun i=>?_
 ·show (bget s.bs i).map XB.er=((erB s.bs)[i]?).join
  rw [bget_er]
 ·show (if Nat.beq i t then XV.c pv else eget (posE 0 (snds s.env)) i).er=_\/_
  show (if Nat.beq i t then XV.c pv else eget (posE 0 (snds s.env)) i).er=(if i=t then AV.D (DV.C pv) else (List.map (fun p=>p.snd.er) s.env).getD i AV.un)\/(if Nat.beq i t then XV.c pv else eget (posE 0 (snds s.env)) i).er=.any
  by_cases h:i=t
  ·left;rw [if_pos (by rw [Nat.beq_eq];exact h),if_pos h];rfl
  ·rw [if_neg (by rw [Nat.beq_eq];exact h),if_neg h]
   exact posE_er s.env i
def recO:Code->Option (Nat × Code)
 | .seq (.region _ ops false) rest=>match ops.toList with
  | [o]=>match o.dst with
   | some t=>some (t,rest)
   | none=>none
  | _=>none
 | _=>none
def xrunC (N:Nat) (P:Program) (T:List Sig) (fl:List Nat) (A:List Ann) (pv:Value) (t:Nat) (fn:Func) (rest:Code) (ent:XS) (out:List XS):fty ent.tys (RT out) :=
 match resolveCode P fl fn.ntmps rest,resolveResN P fn.ntmps fn.results.toList with
 | some rc,some rs=>cuF ent.tys fun v=>xcode N T (mkX P fl [] A rest rc) bodyX (recX t pv (ent.fill v)) (xfin rs ent.bs.length out)
 | _,_=>cuF ent.tys fun _=>none
theorem xfunC {P:Program} (N:Nat) {T:List Sig} (hT:TblOk P T) (fl:List Nat) (A:List Ann) {f:FuncId} {fn:Func} {id t:Nat} {o:Oper} {cl:Call} {rest:Code} {u u1:FrameMode} {pv:Value} {ent:XS} {out:List XS} {F:fty ent.tys (RT out)}
  (hf : P.funcs[f]? = some fn) (hb : fn.body = some (.seq (.region id #[o] false) rest)) (hname : (fn.name == "runtime.NumGoroutine") = false)
  (ho:o.op=.call cl) (hcl:cl.callee=.builtin .recover) (hca:cl.args=#[]) (hog:o.guard=none) (hot:o.dst=some t) (ht:t < fn.ntmps) (hm:P.follows .mixedOrders=true) (hrec:RecTo u u1 pv)
  (hn:ent.env.length <= fn.ntmps) (hF:∀ a,apF ent.tys F a=apF ent.tys (xrunC N P T fl A pv t fn rest ent out) a):DSigOk P u u1 ⟨f,ent,out,F⟩:=by
 intro _ v r h hown
 have h:apF ent.tys F v=some r:=h
 rw [hF] at h
 unfold xrunC at h
 split at h
 case h_2=>rw [apF_cuF] at h;cases h
 rename_i rc rs hrc hrs
 rw [apF_cuF] at h
 have hlen:(erB (ent.fill v).bs).length=ent.bs.length:=by
  show (List.map _ (filBs _ ent.bs _).1).length=_
  rw [List.length_map,filBs_len]
 have hargs:((ent.fill v).env.map fun p=>p.2.er).length <= fn.ntmps:=by
  show (List.map _ (filE _ ent.env _).1).length <= _
  rw [List.length_map,filE_len];exact hn
 have hown:(outS out r).own=[]:=hown
 refine DRec.of_body fl (r:=(XV.val (outS out r).env).er) hf hb hname ho hcl hca hog hot ht hm hrc hrs hargs hrec (recX_ok t pv (ent.fill v)) ?_
 rw [hlen]
 have:=xcode_ok hT (mkX_wf P fl [] A rest rc) _ bodyX bodyY YRel.body h (Q:=AEndW ent.bs.length rs (XV.val (outS out r).env).er (erB (outS out r).bs) []) fun e s' h=>by
  cases e with
  | normal =>
   obtain ⟨x,hx,_,hq⟩:=finA_ok (show finA rs ent.bs.length out s' some=some r from h)
   cases hx
   exact hq _ (.inl rfl) [] (by rw [hown];rfl)
  | ret =>
   obtain ⟨x,hx,_,hq⟩:=finA_ok (show finA rs ent.bs.length out s' some=some r from h)
   cases hx
   exact hq _ (.inr rfl) [] (by rw [hown];rfl)
  | _=>cases h
 rw [mkX_rc] at this
 exact this
theorem DRec.of_bodyK {P:Program} (fl:List Nat) (s0:AState) {f:FuncId} {fn:Func} {c:Code} {rc:RCode} {rs:List RRes} {args:List AV} {bs:List (Option Blk)} {r:AV} {bs':List (Option Blk)} {u:FrameMode}
  (hf : P.funcs[f]? = some fn) (hb : fn.body = some c) (hname : (fn.name == "runtime.NumGoroutine") = false) (hm : P.follows .mixedOrders = true) (hrc : resolveCode P fl fn.ntmps c = some rc) (hrs : resolveResN P fn.ntmps fn.results.toList = some rs)
  (hn:args.length <= fn.ntmps) (hw0:Wk (entry args bs) s0) (h:acode P bodyY rc (AEndW bs.length rs r bs' []) s0):DRec P f args bs u u bs':=by
 have hrs0:=resN_of hrs
 refine ⟨⟨fn,hf,by rw [hb];rfl,hname⟩,fun w G m vs hS hO hA=>?_⟩
 refine callsDIn_of_wp (R:=fun e w'=>∃ v,e=.returned v/\APost w G m (lkOf bs' []) .any v w') hf hb (FR_fn none f) ?_
 have hent:=entry_ok true hn hS hO hA
 have hsim0:=hw0 _ _ _ ⟨G,m,hent⟩
 refine wpIn_mono (resolveCode_ok hm hrc none bodyY _ _ _ _ _ YOk.body rfl h hsim0) fun e a' w' ⟨s00,⟨s,hw,hq⟩,hA0⟩=>?_
 obtain ⟨G1,m1,hA'⟩:=hw _ _ _ hA0
 obtain ⟨v,hv,G2,m2,p1,_,p3⟩:=end_ok hrs0 rfl rfl rfl rfl hS hA' hq
 have hd:a'.defers=[]:=(marks1_nil.1 hA'.defers).2.2 rfl
 rcases hq.1 with rfl | rfl <;> exact ⟨hd,v,hv,v,rfl,G2,m2,p1,by unfold AV.Rep;trivial,p3⟩
theorem xfunK {P:Program} (N:Nat) {T:List Sig} (hT:TblOk P T) (fl:List Nat) (A:List Ann) {f:FuncId} {fn:Func} {c:Code} {u:FrameMode} {ent:XS} {out:List XS} {F:fty ent.tys (RT out)}
  (hf : P.funcs[f]? = some fn) (hb : fn.body = some c) (hname : (fn.name == "runtime.NumGoroutine") = false) (hm : P.follows .mixedOrders = true)
  (hn:ent.env.length <= fn.ntmps) (hF:∀ a,apF ent.tys F a=apF ent.tys (match resolveCode P fl fn.ntmps c,resolveResN P fn.ntmps fn.results.toList with
   | some rc,some rs=>cuF ent.tys fun v=>xcode N T (mkX P fl [] A c rc) bodyX (entX (ent.fill v)) (xfin rs ent.bs.length out)
   | _,_=>cuF ent.tys fun _=>none) a):DSigOk P u u ⟨f,ent,out,F⟩:=by
 intro _ v r h hown
 have h:apF ent.tys F v=some r:=h
 rw [hF] at h
 split at h
 case h_2=>rw [apF_cuF] at h;cases h
 rename_i rc rs hrc hrs
 rw [apF_cuF] at h
 have hlen:(erB (ent.fill v).bs).length=ent.bs.length:=by
  show (List.map _ (filBs _ ent.bs _).1).length=_
  rw [List.length_map,filBs_len]
 have hargs:((ent.fill v).env.map fun p=>p.2.er).length <= fn.ntmps:=by
  show (List.map _ (filE _ ent.env _).1).length <= _
  rw [List.length_map,filE_len];exact hn
 have hown:(outS out r).own=[]:=hown
 refine DRec.of_bodyK fl _ (r:=(XV.val (outS out r).env).er) hf hb hname hm hrc hrs hargs (entX_ok (ent.fill v)) ?_
 rw [hlen]
 have:=xcode_ok hT (mkX_wf P fl [] A c rc) _ bodyX bodyY YRel.body h (Q:=AEndW ent.bs.length rs (XV.val (outS out r).env).er (erB (outS out r).bs) []) fun e s' h=>by
  cases e with
  | normal =>
   obtain ⟨x,hx,_,hq⟩:=finA_ok (show finA rs ent.bs.length out s' some=some r from h)
   cases hx
   exact hq _ (.inl rfl) [] (by rw [hown];rfl)
  | ret =>
   obtain ⟨x,hx,_,hq⟩:=finA_ok (show finA rs ent.bs.length out s' some=some r from h)
   cases hx
   exact hq _ (.inr rfl) [] (by rw [hown];rfl)
  | _=>cases h
 rw [mkX_rc] at this
 exact this
def dfrX (N:Nat) (vs:List XV) (s:XS):XS:={ s with env:=ltE N s.env ++ posE (N + 1) vs }
theorem egetD_lt (N:Nat) (l2:List (Nat × XV)) (h2:∀ i,i < N->eget l2 i=.any):∀ (l:List (Nat × XV)) (i:Nat),i < N->eget (ltE N l ++ l2) i=eget l i
 | [],i,h=>h2 i h
 | (k,v) :: l,i,h=>by
  unfold ltE
  split
  ·show (if Nat.beq i k then v else eget (ltE N l ++ l2) i)=if Nat.beq i k then v else eget l i
   rw [egetD_lt N l2 h2 l i h]
  ·rename_i hk
   have hk:¬ k < N:=fun h=>by rw [show Nat.blt k N=true by rw [Nat.blt_eq];exact h] at hk;cases hk
   show eget (ltE N l ++ l2) i=if Nat.beq i k then v else eget l i
   rw [egetD_lt N l2 h2 l i h,if_neg (by rw [Nat.beq_eq];omega)]
theorem egetD_ge (N:Nat) (l2:List (Nat × XV)):∀ (l:List (Nat × XV)) (i:Nat),N <= i->eget (ltE N l ++ l2) i=eget l2 i
 | [],i,h=>rfl
 | (k,v) :: l,i,h=>by
  unfold ltE
  split
  ·rename_i hk
   have hk:k < N:=by rwa [Nat.blt_eq] at hk
   show (if Nat.beq i k then v else eget (ltE N l ++ l2) i)=_
   rw [if_neg (by rw [Nat.beq_eq];omega),egetD_ge N l2 l i h]
  ·exact egetD_ge N l2 l i h
theorem xvAt_erL [YL]:∀ (vs:List XV) (i:Nat),(xvAt vs i).er=(XV.erL vs).getD i .any
 | [],i=>by cases i <;> rfl
 | v :: vs,0=>rfl
 | v :: vs,i + 1=>by
  show (xvAt vs i).er=(v.er :: XV.erL vs).getD (i + 1) .any
  rw [xvAt_erL vs i,List.getD_cons_succ]
theorem dfrX_er [YL] (N:Nat) (vs:List XV) (s:XS):(dfrX N vs s).er=dfrS N (XV.erL vs) s.er:=by
 refine AState.ext' (fun i=>?_) (fun i=>rfl) (fun i=>rfl) rfl
 show (eget (ltE N s.env ++ posE (N + 1) vs) i).er=if i < N then (eget s.env i).er else if i=N then .any else (XV.erL vs).getD (i - N - 1) .any
 by_cases h:i < N
 ·rw [if_pos h,egetD_lt N _ (fun j hj=>by rw [posE_get,if_neg (by omega)]) _ i h]
 ·rw [if_neg h,egetD_ge N _ _ i (by omega),posE_get]
  by_cases h2:i=N
  ·rw [if_pos h2,if_neg (by omega)];rfl
  ·rw [if_neg h2,if_pos (by omega),xvAt_erL];rw [Nat.sub_sub]
def dvX (N:Nat) (s:XS):Nat->List XV
 | 0=>[]
 | n + 1=>dvX N s n ++ [eget s.env (N + 1 + n)]
theorem dvX_er [YL] (N:Nat) (s:XS):∀ n,XV.erL (dvX N s n)=dfrV N s.er n
 | 0=>rfl
 | n + 1=>by
  show XV.erL (dvX N s n ++ [_])=dfrV N s.er n ++ [_]
  rw [erL_app,dvX_er N s n];rfl
def noOwn:List XS->Bool
 | []=>true
 | m :: l=>(match m.own with
  | []=>true
  | _=>false) && noOwn l
theorem noOwn_ok:∀ {l:List XS} (r:RT l),noOwn l=true->(outS l r).own=[]
 | [],_,_=>rfl
 | [m],r,h=>by
  have h:((match m.own with | []=>true | _=>false) && true)=true:=h
  rw [Bool.and_true] at h
  split at h
  ·rename_i ho;exact own_fill ho _
  ·cases h
 | m :: m2 :: l,.inl r,h=>by
  have h:((match m.own with | []=>true | _=>false) && noOwn (m2 :: l))=true:=h
  rw [Bool.and_eq_true] at h
  obtain ⟨h,_⟩:=h
  split at h
  ·rename_i ho;exact own_fill ho _
  ·cases h
 | m :: m2 :: l,.inr r,h=>by
  have h:((match m.own with | []=>true | _=>false) && noOwn (m2 :: l))=true:=h
  rw [Bool.and_eq_true] at h
  exact noOwn_ok (l:=m2 :: l) r h.2
def xdendK (g:Sig) (N k:Nat) (s:XS) (K:XS->Option R):Option R:=match noOwn g.out,allHd (asgB vrB s 0 g.ent.bs (asgE vrB (xvAt (dvX N s k)) g.ent.env (nones g.ent.bs))) with
 | true,some hs=>xcallE1 s g (dvX N s k) none K hs
 | _,_=>none
def xdend (g:Sig) (N k:Nat) (rs:List RRes) (n:Nat) (out:List XS) (s:XS):Option (RT out):=xdendK g N k s fun s'=>finA rs n out s' some
def xfinD (gr gp:Sig) (pv:Value) (N k:Nat) (rs:List RRes) (n:Nat) (out:List XS):Exit->XS->Option (RT out)
 | .normal,s=>xdend gr N k rs n out s
 | .ret,s=>xdend gr N k rs n out s
 | .panic [⟨v,false,false⟩],s=>match pvEq v pv with
  | true=>xdend gp N k rs n out s
  | false=>none
 | _,_=>none
def xpre (N:Nat) (T:List Sig) {R:Type} [DecidableEq R] (K2:Exit->XS->Option R):List XC->XS->(XS->Option R)->Option R
 | [],s,K=>K s
 | c :: cs,s,K=>xcode N T c bodyX s (kSeq (fun s'=>xpre N T K2 cs s' K) K2)
def xpreE (rs:List RRes) (n:Nat) (out:List XS):Exit->XS->Option (RT out)
 | .ret,s=>finA rs n out s some
 | _,_=>none
def spine:Code->List Code
 | .seq a b=>a :: spine b
 | c=>[c]
def behind:Nat->Code->Code
 | 0,c=>c
 | n + 1,.seq _ b=>behind n b
 | _,c=>c
def preX (P:Program) (fl:List Nat):List (List Ann)->List Code->List RCode->List XC
 | AP,c :: cs,rc :: rcs=>mkX P fl [] (AP.headD []) c rc :: preX P fl AP.tail cs rcs
 | AP,[],rc :: rcs=>mkX P fl [] [] .skip rc :: preX P fl AP.tail [] rcs
 | _,_,[]=>[]
def opsOf:List Code->Nat->List Oper
 | [],_=>[]
 | c :: _,0=>match c with
  | .region _ ops _=>ops.toList
  | _=>[]
 | _ :: cs,n + 1=>opsOf cs n
def xrunD (N:Nat) (P:Program) (T:List Sig) (fl:List Nat) (A:List Ann) (AP:List (List Ann)) (gr gp:Sig) (pv:Value) (fn:Func) (c:Code) (ent:XS) (out:List XS):fty ent.tys (RT out) :=
 match resolveD P fl fn.ntmps c,resolveResN P fn.ntmps fn.results.toList with
 | some (rcs,ros,g,xs,rc),some rs=>match Nat.beq g gr.fn && Nat.beq g gp.fn with
  | true=>cuF ent.tys fun v=>xpre N T (xpreE rs ent.bs.length out) (preX P fl AP (spine c) rcs) (entX (ent.fill v)) fun s=>xops T (zipT ros ((opsOf (spine c) rcs.length).map (operTy P))) s fun s=>wL s xs fun vs =>
    xcode N T (mkX P fl [] A (behind (rcs.length + 1) c) rc) bodyX (dfrX fn.ntmps vs s) (xfinD gr gp pv fn.ntmps xs.length rs ent.bs.length out)
  | false=>cuF ent.tys fun _=>none
 | _,_=>cuF ent.tys fun _=>none
theorem xpre_ok [YL] {P:Program} {N:Nat} {T:List Sig} (hT:TblOk P T) {fl:List Nat} [DecidableEq R] {r:R} {KP:AState->Prop} {Q:Exit->AState->Prop} {K:XS->Option R} {K2:Exit->XS->Option R} (hK:∀ s,K s=some r->KP s.er) (hQ:∀ e s,K2 e s=some r->Q e s.er):∀ {AP:List (List Ann)} {cs:List Code} {rcs:List RCode} {s:XS},xpre N T K2 (preX P fl AP cs rcs) s K=some r->preRun P rcs KP Q s.er
 | _,[],[],s,h=>hK s h
 | _,_ :: _,[],s,h=>hK s h
 | AP,[],rc :: rcs,s,h=>by
  have h:xcode N T (mkX P fl [] [] .skip rc) bodyX s (kSeq (fun s'=>xpre N T K2 (preX P fl AP.tail [] rcs) s' K) K2)=some r:=h
  have:=xcode_ok hT (mkX_wf P fl [] [] .skip rc) _ bodyX bodyY YRel.body h (Q:=exSeq (preRun P rcs KP Q) Q) fun e s' h=>by
   cases e with
   | normal=>exact xpre_ok hT hK hQ h
   | _=>exact hQ _ _ h
  rw [mkX_rc] at this
  exact this
 | AP,c :: cs,rc :: rcs,s,h=>by
  have h:xcode N T (mkX P fl [] (AP.headD []) c rc) bodyX s (kSeq (fun s'=>xpre N T K2 (preX P fl AP.tail cs rcs) s' K) K2)=some r:=h
  have:=xcode_ok hT (mkX_wf P fl [] (AP.headD []) c rc) _ bodyX bodyY YRel.body h (Q:=exSeq (preRun P rcs KP Q) Q) fun e s' h=>by
   cases e with
   | normal=>exact xpre_ok hT hK hQ h
   | _=>exact hQ _ _ h
  rw [mkX_rc] at this
  exact this
theorem xdend_ok [YL] {P:Program} {g:Sig} {u u1:FrameMode} (hg:DSigOk P u u1 g) {N k:Nat} {rs:List RRes} {n:Nat} {out:List XS} {s:XS} {r:RT out} (h:xdend g N k rs n out s=some r) {nbs:List Blk} (hnbs:nbs.map some=erB (outS out r).own) :
  ∃ hs bs2,hs.Nodup/\hsOk s.er.nx hs=true/\(∀ h ∈ hs,(s.er.lk h).any Blk.isIt=false)/\bs2.length=hs.length /\
   DRec P g.fn (AV.convL s.er.lk (phiH hs) (dfrV N s.er k)) (handed s.er.lk hs) u u1 bs2/\AEndW n rs (XV.val (outS out r).env).er (erB (outS out r).bs) nbs .ret (afterE s.er hs (dfrV N s.er k) none .any bs2 []):=by
 unfold xdend xdendK at h
 split at h
 case h_2=>cases h
 rename_i hds hno _
 obtain ⟨v,rr,bl,hr,hbl,hpv,hargs,hh,c1,c2,c3,c4,c5,hk,he⟩:=xcallE1_ok h
 have hown:=noOwn_ok rr hno
 have hrec:=hg v rr hr hown
 rw [hargs,<- hh,dvX_er] at hrec
 obtain ⟨x,hx,_,hq⟩:=finA_ok hk
 cases hx
 have hend:=hq .ret (.inr rfl) nbs hnbs
 rw [he,dvX_er] at hend
 have hbl0:bl=[]:=by
  rw [hown] at hbl
  exact List.map_eq_nil_iff.1 (List.map_eq_nil_iff.1 hbl)
 subst hbl0
 exact ⟨hds,_,c1,c2,c4,c5,hrec,hend⟩
theorem xfunE {P : Program} (N : Nat) {T : List Sig} (hT : TblOk P T) (fl : List Nat) (A : List Ann) (AP : List (List Ann)) {gr gp : Sig} {pv : Value} (hgr : DSigOk P .returning .returning gr) (hgp : DSigOk P (.panicking [{ v := pv, recovered := false }]) (.panicking [{ v := pv, recovered := true }]) gp) {f : FuncId} {fn : Func} {c : Code} {ent : XS} {out : List XS} {F : fty ent.tys (RT out)} (hf : P.funcs[f]? = some fn) (hb : fn.body = some c) (hname : (fn.name == "runtime.NumGoroutine") = false) (hm : P.follows .mixedOrders = true)
  (hno:anyPv out=false) (hn:ent.env.length <= fn.ntmps) (hF:∀ a,apF ent.tys F a=apF ent.tys (xrunD N P T fl A AP gr gp pv fn c ent out) a):SigOk P ⟨f,ent,out,F⟩:=by
 intro _ v r h nbs hnbs
 have h:apF ent.tys F v=some r:=h
 rw [hF] at h
 unfold xrunD at h
 split at h
 case h_2=>rw [apF_cuF] at h;cases h
 rename_i rcs ros g xs rc rs hrc hrs
 split at h
 case h_2=>rw [apF_cuF] at h;cases h
 rename_i hg
 rw [apF_cuF] at h
 rw [Bool.and_eq_true] at hg
 have hg1:=Nat.eq_of_beq_eq_true hg.1
 have hg2:=Nat.eq_of_beq_eq_true hg.2
 have hlen:(erB (ent.fill v).bs).length=ent.bs.length:=by
  show (List.map _ (filBs _ ent.bs _).1).length=_
  rw [List.length_map,filBs_len]
 have hargs:((ent.fill v).env.map fun p=>p.2.er).length <= fn.ntmps:=by
  show (List.map _ (filE _ ent.env _).1).length <= _
  rw [List.length_map,filE_len];exact hn
 show OutOk P f _ _ (outS out r) nbs
 unfold OutOk
 rw [pv_no hno]
 refine ACall.of_bodyRR fl hf hb hname hm hrc hrs hargs (entX_ok (ent.fill v)) ?_
 rw [hlen]
 refine xpre_ok hT (fun s h=>?_) (fun e s h=>?_) h
 case refine_2 =>
  cases e with
  | ret =>
   obtain ⟨x,hx,_,hq⟩:=finA_ok (show finA rs ent.bs.length out s some=some r from h)
   cases hx
   exact hq _ (.inr rfl) nbs hnbs
  | _=>cases h
 have:=xops_ok hT h (KP:=fun s'=>acode P bodyY rc (DEndR P fn.ntmps ent.bs.length g xs.length rs (XV.val (outS out r).env).er (erB (outS out r).bs) nbs) (dfrS fn.ntmps (xs.map s'.ev) s')) fun s' h=>by
  obtain ⟨vs,h,e⟩:=wL_ok h
  rw [e,<- dfrX_er]
  have:=xcode_ok hT (mkX_wf P fl [] A _ rc) _ bodyX bodyY YRel.body h (Q:=DEndR P fn.ntmps ent.bs.length g xs.length rs (XV.val (outS out r).env).er (erB (outS out r).bs) nbs) fun e s2 h=>by
   unfold xfinD at h
   split at h
   ·obtain ⟨hs,bs2,q⟩:=xdend_ok hgr h hnbs
    rw [<- hg1] at q
    exact ⟨_,_,.inl ⟨.inl rfl,rfl,rfl⟩,hs,bs2,q⟩
   ·obtain ⟨hs,bs2,q⟩:=xdend_ok hgr h hnbs
    rw [<- hg1] at q
    exact ⟨_,_,.inl ⟨.inr rfl,rfl,rfl⟩,hs,bs2,q⟩
   ·split at h
    ·rename_i w _ he
     obtain rfl:=pvEq_ok he
     obtain ⟨hs,bs2,q⟩:=xdend_ok hgp (by assumption) hnbs
     rw [<- hg2] at q
     exact ⟨_,_,.inr ⟨_,rfl,rfl,rfl⟩,hs,bs2,q⟩
    ·cases h
   ·cases h
  rw [mkX_rc] at this
  exact this
 rw [zipT_ro] at this
 exact this
theorem xfunD {P : Program} (N : Nat) {T : List Sig} (hT : TblOk P T) (fl : List Nat) (A : List Ann) {gr gp : Sig} {pv : Value} (hgr : DSigOk P .returning .returning gr) (hgp : DSigOk P (.panicking [{ v := pv, recovered := false }]) (.panicking [{ v := pv, recovered := true }]) gp) {f : FuncId} {fn : Func} {c : Code} {ent : XS} {out : List XS} {F : fty ent.tys (RT out)} (hf : P.funcs[f]? = some fn) (hb : fn.body = some c) (hname : (fn.name == "runtime.NumGoroutine") = false) (hm : P.follows .mixedOrders = true)
  (hno:anyPv out=false) (hn:ent.env.length <= fn.ntmps) (hF:∀ a,apF ent.tys F a=apF ent.tys (xrunD N P T fl A [] gr gp pv fn c ent out) a):SigOk P ⟨f,ent,out,F⟩:=xfunE N hT fl A [] hgr hgp hf hb hname hm hno hn hF
end Go.Eng

namespace Go.Eng
open Go.RowKit Go.ChangeShapes Go.WideShapes Go.ChangeAt

def gOf (w:World):Gh:=fun b o=>w.cell? ⟨b,o,none⟩
def CRep (G:Gh) (ds:List DV) (cs:List Value):Prop:=ds.length=cs.length/\DV.cells G (fun j=>cs[j]?) 0 ds

theorem CRep.nil {G:Gh}:CRep G [] []:=⟨rfl,by simp [DV.cells]⟩
theorem CRep.app {G:Gh} {d1 d2:List DV} {cs:List Value} (n:Nat) (h1:CRep G d1 (cs.take n)) (h2:CRep G d2 (cs.drop n)):CRep G (d1 ++ d2) cs:=by
 obtain ⟨l1,c1⟩:=h1
 obtain ⟨l2,c2⟩:=h2
 rw [List.length_take] at l1
 rw [List.length_drop] at l2
 refine ⟨by rw [List.length_append];omega,DV.cells_append (DV.cells_congr (fun i hi=>?_) c1) (DV.cells_congr (o:=0) (fun i hi=>?_) c2)⟩
 ·simp only [Nat.zero_add]
  rw [List.getElem?_take_of_lt (by omega)]
 ·simp only [Nat.zero_add]
  rw [List.getElem?_drop]
  rcases Nat.lt_or_ge n cs.length with h | h
  ·rw [show d1.length=n by omega]
  ·exfalso;omega
theorem CRep.one {G:Gh} {d:DV} {v:Value} (h:DV.Rep G d v):CRep G [d] [v]:=⟨rfl,by simp [DV.cells];exact h⟩

structure Cv (P:Program) (t:TypeId) {α:Type} (row:α->List DV) (k:Nat) (ok:α->Prop):Prop where
 len:∀ x,(row x).length=k
 cells:P.cellsOf t=k
 get:∀ {H:Type} (enc:TypeId × Value->H) (w:World) (spare:Nat->Bool) (held:Bool) (fuel:Nat) (cs:List Value) (r:DataW H × List MemPlace),DataW.trod enc P w 0 spare held fuel t cs=some r->∃ x,ok x/\CRep (gOf w) (row x) cs

theorem Cv.int {P:Program} {t:TypeId} {k:IntKind} (ht:P.underlying t=some (.int k)) (hc:P.cellsOf t=1):Cv P t (Ty.i k).ds 1 fun n=>k.min <= n/\n <= k.max :=
 ⟨fun _=>rfl,hc,fun enc w spare held fuel cs r h=>by
  obtain ⟨n,rfl,_,hw⟩:=DataW.trod_int ht h
  simp only [Lit.wf,Bool.and_eq_true,decide_eq_true_eq] at hw
  exact ⟨n,hw,CRep.one (by unfold DV.Rep;rfl)⟩⟩
theorem Cv.bool {P:Program} {t:TypeId} (ht:P.underlying t=some .bool) (hc:P.cellsOf t=1):Cv P t Ty.b.ds 1 fun _=>True :=
 ⟨fun _=>rfl,hc,fun enc w spare held fuel cs r h=>by
  obtain ⟨b,rfl,_⟩:=DataW.trod_bool ht h
  exact ⟨b,trivial,CRep.one (by unfold DV.Rep;rfl)⟩⟩
theorem Cv.string {P:Program} {t:TypeId} (ht:P.underlying t=some .string) (hc:P.cellsOf t=1):Cv P t Ty.s.ds 1 fun s=>s.length <= 9223372036854775807 :=
 ⟨fun _=>rfl,hc,fun enc w spare held fuel cs r h=>by
  obtain ⟨s,rfl,_,hs⟩:=DataW.trod_string ht h
  exact ⟨s.data.toList,by simpa [maxLen] using hs,CRep.one (by unfold DV.Rep;rfl)⟩⟩

theorem list_of {α:Type} {Q:Nat->α->Prop}:∀ (n:Nat),(∀ i,i < n->∃ x,Q i x)->∃ xs:List α,xs.length=n/\∀ i x,xs[i]?=some x->Q i x
 | 0,_=>⟨[],rfl,fun i x h=>by simp at h⟩
 | n + 1,h=>by
  obtain ⟨xs,h1,h2⟩:=list_of n (fun i hi=>h i (by omega))
  obtain ⟨x,hx⟩:=h n (by omega)
  refine ⟨xs ++ [x],by simp [h1],fun i y hy=>?_⟩
  rcases Nat.lt_or_ge i xs.length with hi | hi
  ·rw [List.getElem?_append_left hi] at hy;exact h2 i y hy
  ·rw [List.getElem?_append_right hi] at hy
   have:i - xs.length=0:=by
    rcases Nat.eq_zero_or_pos (i - xs.length) with e | e
    ·exact e
    ·rw [List.getElem?_eq_none (by simp;omega)] at hy;cases hy
   rw [this] at hy
   simp at hy
   subst hy
   rw [show i=n by omega];exact hx

theorem rows_of {α:Type} {G:Gh} {row:α->List DV} {k:Nat} {f:Nat->Option Value} (hk:∀ x,(row x).length=k):∀ (xs:List α) (o:Nat),(∀ i x,xs[i]?=some x->DV.cells G f (o + i * k) (row x))->DV.rows G f k o (xs.map row)
 | [],_,_=>by simp [DV.rows]
 | x :: xs,o,h=>by
  simp only [List.map_cons]
  unfold DV.rows
  refine ⟨hk x,by simpa using h 0 x rfl,rows_of hk xs (o + k) (fun i y hy=>?_)⟩
  have:=h (i + 1) y (by simpa using hy)
  rwa [Nat.add_mul,Nat.one_mul,Nat.add_comm (i * k) k,<- Nat.add_assoc] at this

theorem Cv.slice {P:Program} {t e:TypeId} {α:Type} {row:α->List DV} {k:Nat} {ok:α->Prop} (hE:Cv P e row k ok) (hk:0 < k) (ht:P.underlying t=some (.slice e)) (hc:P.cellsOf t=1) :
  Cv P t (fun xs:List α=>[DV.L (xs.map row)]) 1 fun xs=>xs.length <= 9223372036854775807/\∀ x ∈ xs,ok x :=
 ⟨fun _=>rfl,hc,fun enc w spare held fuel cs r h=>by
  rcases Go.Deep.open_slice ht h with ⟨rfl,_⟩ | ⟨a,len,cap,m,n,D,Pl,rfl,_,hl,hm,hmm,_,hi⟩
  ·refine ⟨[],⟨by simp,by simp⟩,CRep.one ?_⟩
   unfold DV.Rep
   exact ⟨none,0,rfl,Nat.le_refl _,fun _=>rfl,fun h=>absurd rfl h⟩
  ·have hlm:len <= m:=by rw [hmm];split <;> omega
   obtain ⟨xs,h1,h2⟩:=list_of (Q:=fun i x=>ok x/\∃ cs',w.cells? 0 (a.add (i * P.cellsOf e)) (P.cellsOf e)=some cs'/\CRep (gOf w) (row x) cs') len (fun i hil=>by
    obtain ⟨cs',hc',htr⟩:=hi i (by omega)
    obtain ⟨x,hx,hr⟩:=hE.get enc w spare held n cs' _ htr
    exact ⟨x,hx,cs',hc',hr⟩)
   refine ⟨xs,⟨by rw [h1];simp [maxLen] at hm;omega,fun x hx=>?_⟩,CRep.one ?_⟩
   ·obtain ⟨i,hi⟩:=List.getElem?_of_mem hx
    exact (h2 i x hi).1
   ·unfold DV.Rep
    refine ⟨some a,cap,by rw [List.length_map,h1],by rw [List.length_map,h1];exact hl,(fun e=>by cases e),fun hne=>?_⟩
    have hx0:∃ x,xs[0]?=some x:=by
     cases xs with
     | nil=>simp at hne
     | cons x _=>exact ⟨x,rfl⟩
    obtain ⟨x0,hx0⟩:=hx0
    obtain ⟨_,cs0,hc0,hl0,_⟩:=h2 0 x0 hx0
    obtain ⟨_,hcl0,hat0⟩:=World.cells?_some hc0
    rw [hE.cells] at hcl0 hat0
    have hspot:a=⟨a.block,a.off,none⟩:=by
     have h3:=hat0 0 hk
     have h4:(cs0[0]?).isSome=true:=by rw [List.getElem?_eq_getElem (by omega)];rfl
     rw [<- h3] at h4
     obtain ⟨b,o,sp⟩:=a
     cases sp with
     | none=>rfl
     | some _=>exfalso;simp [World.cell?,Addr.add] at h4;split at h4 <;> cases h4
    refine ⟨a.block,a.off,k,by rw [<- hspot],rows_of hE.len xs a.off (fun i x hx=>?_)⟩
    obtain ⟨_,cs',hc',hl',hcr⟩:=h2 i x hx
    obtain ⟨_,hcl,hat⟩:=World.cells?_some hc'
    rw [hE.cells] at hcl hat
    refine DV.cells_congr (o:=0) (fun j hj=>?_) hcr
    have hj':j < k:=by rw [hE.len] at hj;exact hj
    have:=hat j hj'
    rw [hspot,Addr.add_lit,Addr.add_lit] at this
    rw [Nat.zero_add,<- this]
    rfl⟩

theorem Cv.struct {P:Program} {t:TypeId} {fs:Array Field} {α:Type} {row:α->List DV} {k:Nat} {ok:α->Prop} (ht:P.underlying t=some (.struct fs)) (hc:P.cellsOf t=k) (hlen:∀ x,(row x).length=k)
  (h:∀ (G:Gh) (cs:List Value),cs.length=k->(∀ (i:Nat) (f:Field),fs[i]?=some f->∀ {α:Type} {row:α->List DV} {k':Nat} {ok:α->Prop},Cv P f.type row k' ok->∃ x,ok x/\CRep G (row x) ((cs.drop f.offset).take k'))->∃ x,ok x/\CRep G (row x) cs):Cv P t row k ok :=
 ⟨hlen,hc,fun enc w spare held fuel cs r hr=>by
  obtain ⟨xs,n,_,_,hcl,hxl,hf⟩:=DataW.trod_struct ht hr
  refine h (gOf w) cs (by rw [hcl,hc]) (fun i f hi α' row' k' ok' hcv=>?_)
  have h1:=hf i f hi
  have hlt:=(Array.getElem?_eq_some_iff.1 hi).1
  rw [List.getElem?_eq_getElem (by omega)] at h1
  obtain ⟨x,hx,hxr⟩:=hcv.get enc w spare held n _ _ h1
  rw [hcv.cells] at hxr
  exact ⟨x,hx,hxr⟩⟩
theorem CRep.cons {G:Gh} {ds rest:List DV} {cs:List Value} {o k:Nat} (h1:CRep G ds ((cs.drop o).take k)) (h2:CRep G rest (cs.drop (o + k))):CRep G (ds ++ rest) (cs.drop o) :=
 CRep.app k h1 (by rwa [List.drop_drop])
theorem crep_repL {G:Gh} {m:HM} {ds:List DV} {cs:List Value} (h:CRep G ds cs):AV.RepL G m (ds.map .D) cs :=
 AV.RepL_data h.2 (fun j hj=>by rw [Nat.zero_add]) h.1.symm
theorem crep_one {G:Gh} {m:HM} {d:DV} {v:Value} (h:CRep G [d] v.cells.toList) (hv:v.oneCell'=true):AV.Rep G m (.D d) v:=by
 have:=crep_repL (m:=m) h
 rw [oneCell_cells hv] at this
 simp only [List.map_cons,List.map_nil] at this
 unfold AV.RepL at this
 obtain ⟨u,us,e,h2,_⟩:=this
 cases e
 exact h2
theorem crep_agg {G:Gh} {m:HM} {ds:List DV} {cs:Array Value} (h:CRep G ds cs.toList):AV.Rep G m (.agg (ds.map .D)) (.agg cs):=by
 unfold AV.Rep
 exact ⟨cs,rfl,crep_repL h⟩

theorem sim_gOf (w:World) (hg:GlOk (gOf w)):Sim (gOf w) (fun _=>none) (lkOf [] []) w:=⟨(fun _ _ _ h=>by cases h),(fun _ h=>by cases h),(fun _ _ _ _ _ h=>by cases h),(fun _ _ _ h=>h),(fun _ h=>by cases h),hg,(fun _ _ _ _ h=>by cases h)⟩
theorem CallDoes.calls {P:Program} {f:FuncId} {vs:Array Value} {w:World} {R:Value->World->Prop} (hfn:FnOk P f) (h:CallDoes P f vs w R):Calls P f vs w fun e w'=>∃ v,e=.returned v/\R v w':=by
 rcases h with ⟨_,h⟩ | ⟨v,w',h1,_⟩
 ·exact h
 ·exfalso
  obtain ⟨fd,q1,q2,q3⟩:=hfn
  have hnone:fd.body.isNone=false:=by rw [Option.isNone_eq_false_iff];exact q2
  simp only [callFunc,Sem.run_bind,run_program,Result.andThen_ok,q1,q3,hnone,Bool.false_eq_true,if_false] at h1
  simp at h1

theorem law_calls {P:Program} {f:FuncId} {args:List AV} {w:World} {vs:Array Value} (hfn:FnOk P f) (hg:GlOk (gOf w)) (hc:ACall P f args [] (.D (.B true)) [] []) (hr:AV.RepL (gOf w) (fun _=>none) args vs.toList) :
  Calls P f vs w fun e w'=>e=.returned (.bool true)/\Below w.heap.size w w' :=
 (CallDoes.calls hfn (hc w (gOf w) _ vs (sim_gOf w hg) (fun _=>rfl) hr)).mono fun e w' ⟨v,he,G',m',_,hv,hF,_⟩=>by
  have:=rep_B hv
  subst this
  exact ⟨he,hF.os,hF.tape.1,hF.output,hF.size,fun b hb=>hF.heap b hb (Own.no b)⟩

theorem trodAll_stays {H:Type} {enc:TypeId × Value->H} {P:Program} (hl:laidOutB P=true) {W W':World} (hb:Below W.heap.size W W') (sp:Nat->Bool):∀ {ts:List TypeId} {vs:List Value} {ds:List (DataW H)} {ps:List MemPlace},
  (∀ t ∈ ts,P.readableRec t=true/\t < P.types.size)->DataW.TrodAll enc P W 0 (fun _=>true) true ts vs ds ps->(∀ p ∈ ps,p.block < W.heap.size)->(∀ p ∈ ps,sp p.block=true)->DataW.TrodAll enc P W' 0 sp true ts vs ds ps
 | [],[],[],_,_,h,_,_=>h
 | t :: ts,v :: vs,d :: ds,ps,ht,h,hlt,hsp=>by
  obtain ⟨p,q,h1,h2,rfl⟩:=h
  exact ⟨p,q,WideElems.Trod_stays hl (ht t (by simp)).1 (ht t (by simp)).2 h1 (fun x hx=>hb.same (hlt x (by simp [hx]))) (fun x hx=>hsp x (by simp [hx])),
   trodAll_stays hl hb sp (fun t' h'=>ht t' (by simp [h'])) h2 (fun x hx=>hlt x (by simp [hx])) (fun x hx=>hsp x (by simp [hx])),rfl⟩
 | [],[],_ :: _,_,_,h,_,_=>h.elim
 | [],_ :: _,ds,_,_,h,_,_=>by cases ds <;> exact h.elim
 | _ :: _,[],ds,_,_,h,_,_=>by cases ds <;> exact h.elim
 | _ :: _,_ :: _,[],_,_,h,_,_=>h.elim
theorem law_post {P:Program} {f:Func} {s:ChangeSpec} {H:Type} {enc:TypeId × Value->H} {W W':World} {args:Array Value} {ds:List (DataW H)} {before:List MemPlace} {tb:TypeId} (hl:laidOutB P=true)
  (hW:DataW.Whole enc P f.params.toList s.vars false W args.toList ds [] before) (hvars:s.vars=[]) (hs:s.fn H (ds ++ [])={ results:=[.lit (.bool true)],args:=ds }) (hr:f.resultTypes=#[tb]) (htb:P.underlying tb=some .bool)
  (hp:∀ t ∈ f.params.toList,P.readableRec t=true/\t < P.types.size) (hb:Below W.heap.size W W'):s.post enc P f false true false false W args (.bool true) W':=by
 have hlt:∀ p ∈ before,p.block < W.heap.size:=fun p hp=>hW.lt p hp
 have hW0:=hW
 obtain ⟨p,q,hA,hV,hpq,hz,hn⟩:=hW0
 have hV0:=hV
 rw [hvars] at hV0
 have hq:q=[]:=by simpa [DataW.TrodVars] using hV0
 subst hq
 rw [List.append_nil] at hpq
 subst hpq
 have hstay:∀ sp:Nat->Bool,(∀ x ∈ before,sp x.block=true)->DataW.TrodAll enc P W' 0 sp true f.params.toList args.toList ds before:=fun sp hsp=>trodAll_stays hl hb sp hp hA hlt hsp
 have hres:∀ (b:Nat) (sp:Nat->Bool) (hd:Bool),DataW.TrodAll enc P W' b sp hd f.resultTypes.toList ((Value.bool true).resultList f.resultTypes.size) [.lit (.bool true)] []:=fun b sp hd=>by
  rw [hr]
  exact trodAll_mk1 ⟨1,by simp [DataW.trod,Value.cells,htb]⟩
 have hvt:∀ sp:Nat->Bool,DataW.TrodVars enc P W' sp s.vars (s.fn H (ds ++ [])).vars []:=fun sp=>by
  rw [hvars,hs];exact rfl
 refine ⟨ds,[],before,[],before,[],hW,by rw [hs];exact hres _ _ _,by rw [hs];exact hstay _ (fun p hp=>by simpa using hlt p hp),hvt _,World.keptBut_mono (fun p hp=>⟨hp,.inr (.inl hp)⟩) (hb.frame (· ∈ before)),fun h=>by cases h⟩
theorem DV.cells_of {G:Gh} {f:Nat->Option Value}:∀ {ds:List DV} {o:Nat},(∀ i d,ds[i]?=some d->∃ v,f (o + i)=some v/\DV.Rep G d v)->DV.cells G f o ds
 | [],o,_=>by unfold DV.cells;trivial
 | d :: ds,o,h=>by
  unfold DV.cells
  obtain ⟨v,h1,h2⟩:=h 0 d rfl
  exact ⟨⟨v,h1,h2⟩,DV.cells_of fun i e hi=>by
   obtain ⟨u,h3,h4⟩:=h (i + 1) e (by simpa using hi)
   exact ⟨u,by rw [<- h3];congr 1;omega,h4⟩⟩
theorem Cv.array {P:Program} {t e:TypeId} {n:Nat} {k:IntKind} (he:P.underlying e=some (.int k)) (hce:P.cellsOf e=1) (ht:P.underlying t=some (.array n e)) (hc:P.cellsOf t=n) :
  Cv P t (Ty.ar n k).ds n fun x=>∀ y ∈ x.l,k.min <= y/\y <= k.max:= ⟨fun x=>Ty.ds_len (.ar n k) x,hc,fun enc w spare held fuel cs r h=>by
  obtain ⟨xs,m,_,_,hcl,hxl,hf⟩:=DataW.trod_array ht h
  rw [hc] at hcl
  simp only [hce,Nat.mul_one] at hf
  obtain ⟨zs,hl,hz⟩:=list_of (Q:=fun i z=>(k.min <= z/\z <= k.max)/\cs[i]?=some (.int k z)) n fun i hi=>by
   have h1:=hf i hi
   rw [List.getElem?_eq_getElem (by omega)] at h1
   obtain ⟨z,hz,_,hw⟩:=DataW.trod_int he h1
   simp only [Lit.wf,Bool.and_eq_true,decide_eq_true_eq] at hw
   refine ⟨z,hw,?_⟩
   have h2:=congrArg (·[0]?) hz
   simpa [List.getElem?_take,List.getElem?_drop] using h2
  refine ⟨⟨zs,hl⟩,fun y hy=>?_,?_⟩
  ·obtain ⟨i,hi⟩:=List.getElem?_of_mem hy
   exact (hz i y hi).1
  ·refine ⟨by rw [Ty.ds_len];show n=_;omega,DV.cells_of fun i d hd=>?_⟩
   have hd:(zs.map (DV.I k))[i]?=some d:=hd
   rw [List.getElem?_map,Option.map_eq_some_iff] at hd
   obtain ⟨z,hz1,rfl⟩:=hd
   exact ⟨_,by rw [Nat.zero_add];exact (hz i z hz1).2,by unfold DV.Rep;rfl⟩⟩
theorem glOk_tab {P:Program} {W:World} {name:String} {g:Nat} {k:IntKind} {zs:List Int} (hT:Lib.TabIs P W name k zs) (hg:P.globalNamed name=some g):DV.cells (gOf W) (gOf W g) 0 (zs.map (DV.I k)):=by
 refine DV.cells_of fun i d hd=>?_
 rw [List.getElem?_map,Option.map_eq_some_iff] at hd
 obtain ⟨z,hz,rfl⟩:=hd
 have hi:i < zs.length:=(List.getElem?_eq_some_iff.1 hz).1
 refine ⟨.int k z,?_,by unfold DV.Rep;rfl⟩
 have h1:=hT.cell hg i hi
 rw [List.getD,hz] at h1
 rw [Nat.zero_add]
 exact h1
end Go.Eng

namespace Go.Eng
open Go.RowKit Go.ChangeShapes Go.WideShapes Go.ChangeAt

def Ty.ok:(t:Ty)->t.T->Prop
 | .i k,n=>k.min <= n/\n <= k.max
 | .s,x=>x.length <= 9223372036854775807
 | .sl t,xs=>xs.length <= 9223372036854775807/\∀ x ∈ xs,t.ok x
 | .ar _ k,x=>∀ y ∈ x.l,k.min <= y/\y <= k.max
 | .p a c,v=>a.ok v.1/\c.ok v.2
 | .w a,v=>a.ok v
 | _,_=>True
def isD:TypeDesc->TypeDesc->Bool
 | .bool,.bool=>true
 | .string,.string=>true
 | .int k,.int k'=>decide (k=k')
 | _,_=>false
theorem isD_ok:∀ {a b:TypeDesc},isD a b=true->a=b:=by
 intro a b h
 unfold isD at h
 split at h <;> first | rfl | (rw [of_decide_eq_true h];done) | cases h
def undB (P:Program) (t:TypeId) (d:TypeDesc):Bool:=match P.underlying t with
 | some d'=>isD d' d
 | none=>false
theorem undB_ok {P:Program} {t:TypeId} {d:TypeDesc} (h:undB P t d=true):P.underlying t=some d:=by
 unfold undB at h
 split at h
 ·rename_i d' hd;rw [hd,isD_ok h]
 ·cases h
def kindB (P:Program) (t:TypeId) (d:TypeDesc):Bool:=undB P t d && Nat.beq (P.cellsOf t) 1
def lastF (g:TypeId->Bool) (fs:List Field) (o:Nat):Bool:=match fs with
 | [f]=>Nat.beq f.offset o && g f.type
 | _=>false
def slB (P:Program) (n:Nat) (g:TypeId->Bool) (t:TypeId):Bool:=match P.underlying t with
 | some (.slice e)=>g e && Nat.beq (P.cellsOf t) 1 && Nat.blt 0 n
 | _=>false
def arB (P:Program) (n:Nat) (k:IntKind) (t:TypeId):Bool:=match P.underlying t with
 | some (.array m e)=>Nat.beq m n && undB P e (.int k) && Nat.beq (P.cellsOf e) 1 && Nat.beq (P.cellsOf t) n
 | _=>false
def stB (P:Program) (n:Nat) (g:List Field->Nat->Bool) (t:TypeId):Bool:=match P.underlying t with
 | some (.struct fs)=>g fs.toList 0 && Nat.beq (P.cellsOf t) n
 | _=>false
def consF (n:Nat) (g:TypeId->Bool) (h:List Field->Nat->Bool) (fs:List Field) (o:Nat):Bool:=match fs with
 | f :: fs=>Nat.beq f.offset o && g f.type && h fs (o + n)
 | []=>false
def emptyF:List Field->Nat->Bool
 | [],_=>true
 | _,_=>false
def cvB (P:Program):Ty->(TypeId->Bool) × (List Field->Nat->Bool)
 | .u=>(fun _=>false,emptyF)
 | .b=>(fun t=>kindB P t .bool,lastF fun t=>kindB P t .bool)
 | .i k=>(fun t=>kindB P t (.int k),lastF fun t=>kindB P t (.int k))
 | .s=>(fun t=>kindB P t .string,lastF fun t=>kindB P t .string)
 | .ar n k=>(arB P n k,lastF (arB P n k))
 | .sl t=>(slB P t.n (cvB P t).1,lastF (slB P t.n (cvB P t).1))
 | .w x=>(stB P x.n (cvB P x).2,lastF (stB P x.n (cvB P x).2))
 | .p a c=>(fun _=>false,consF a.n (cvB P a).1 (cvB P c).2)
 | .o _=>(fun _=>false,fun _ _=>false)

def GetF (P:Program) (G:Gh) (cs:List Value) (f:Field):Prop:=∀ {α:Type} {row:α->List DV} {k':Nat} {ok:α->Prop},Cv P f.type row k' ok->∃ x,ok x/\CRep G (row x) ((cs.drop f.offset).take k')
def FldOk (P:Program) (t:Ty) (fs:List Field) (o:Nat):Prop:=∀ (G:Gh) (cs:List Value),cs.length=o + t.n->(∀ f ∈ fs,GetF P G cs f)->∃ x:t.T,t.ok x/\CRep G (t.ds x) (cs.drop o)
theorem lastF_ok {P:Program} {g:TypeId->Bool} {t:Ty} (hg:∀ i,g i=true->Cv P i t.ds t.n t.ok) {fs:List Field} {o:Nat} (h:lastF g fs o=true):FldOk P t fs o:=by
 unfold lastF at h
 split at h
 ·rename_i f
  simp only [Bool.and_eq_true] at h
  have ho:=Nat.eq_of_beq_eq_true h.1
  intro G cs hl hf
  obtain ⟨x,hx,hr⟩:=hf f (List.mem_singleton.2 rfl) (hg _ h.2)
  refine ⟨x,hx,?_⟩
  rw [ho,List.take_of_length_le (by rw [List.length_drop];omega)] at hr
  exact hr
 ·cases h
theorem kindB_ok {P:Program} {t:TypeId} {d:TypeDesc} (h:kindB P t d=true):P.underlying t=some d/\P.cellsOf t=1:=by
 simp only [kindB,Bool.and_eq_true] at h
 exact ⟨undB_ok h.1,Nat.eq_of_beq_eq_true h.2⟩
theorem cvB_ok (P:Program):∀ T:Ty,(∀ i,(cvB P T).1 i=true->Cv P i T.ds T.n T.ok)/\∀ fs o,(cvB P T).2 fs o=true->FldOk P T fs o
 | .u=>by
  refine ⟨fun _ h=>(by cases h),fun fs o h=>?_⟩
  cases fs with
  | nil=>exact fun G cs hl _=>⟨(),trivial,by rw [List.drop_of_length_le (by simp [hl,Ty.n])];exact CRep.nil⟩
  | cons _ _=>cases h
 | .b=>by
  have h1:∀ i,kindB P i .bool=true->Cv P i Ty.b.ds 1 Ty.b.ok:=fun i h=>Cv.bool (kindB_ok h).1 (kindB_ok h).2
  exact ⟨h1,fun fs o h=>lastF_ok (t:=.b) h1 h⟩
 | .i k=>by
  have h1:∀ i,kindB P i (.int k)=true->Cv P i (Ty.i k).ds 1 (Ty.i k).ok:=fun i h=>Cv.int (kindB_ok h).1 (kindB_ok h).2
  exact ⟨h1,fun fs o h=>lastF_ok (t:=.i k) h1 h⟩
 | .s=>by
  have h1:∀ i,kindB P i .string=true->Cv P i Ty.s.ds 1 Ty.s.ok:=fun i h=>Cv.string (kindB_ok h).1 (kindB_ok h).2
  exact ⟨h1,fun fs o h=>lastF_ok (t:=.s) h1 h⟩
 | .ar n k=>by
  have h1:∀ i,arB P n k i=true->Cv P i (Ty.ar n k).ds n (Ty.ar n k).ok:=fun i h=>by
   unfold arB at h
   split at h
   ·rename_i m e hu
    simp only [Bool.and_eq_true,decide_eq_true_eq] at h
    obtain ⟨⟨⟨h1,h2⟩,h3⟩,h4⟩:=h
    obtain rfl:=Nat.eq_of_beq_eq_true h1
    exact Cv.array (undB_ok h2) (Nat.eq_of_beq_eq_true h3) hu (Nat.eq_of_beq_eq_true h4)
   ·cases h
  exact ⟨h1,fun fs o h=>lastF_ok (t:=.ar n k) h1 h⟩
 | .sl t=>by
  have h1:∀ i,slB P t.n (cvB P t).1 i=true->Cv P i (Ty.sl t).ds 1 (Ty.sl t).ok:=fun i h=>by
   unfold slB at h
   split at h
   ·rename_i e hu
    simp only [Bool.and_eq_true] at h
    exact Cv.slice ((cvB_ok P t).1 _ h.1.1) (Nat.lt_of_lt_of_le Nat.zero_lt_one (Nat.le_of_ble_eq_true h.2)) hu (Nat.eq_of_beq_eq_true h.1.2)
   ·cases h
  exact ⟨h1,fun fs o h=>lastF_ok (t:=.sl t) h1 h⟩
 | .w x=>by
  have h1:∀ i,stB P x.n (cvB P x).2 i=true->Cv P i (Ty.w x).ds x.n (Ty.w x).ok:=fun i h=>by
   unfold stB at h
   split at h
   ·rename_i fs hu
    simp only [Bool.and_eq_true] at h
    refine Cv.struct hu (Nat.eq_of_beq_eq_true h.2) (fun y=>Ty.ds_len x y) fun G cs hl hf=>?_
    obtain ⟨y,hy,hr⟩:=(cvB_ok P x).2 _ _ h.1 G cs (by rw [hl,Nat.zero_add]) fun f hm=>by
     obtain ⟨i,hi⟩:=List.getElem?_of_mem hm
     rw [Array.getElem?_toList] at hi
     exact fun {α} {row} {k'} {ok} hcv=>hf i f hi hcv
    exact ⟨y,hy,hr⟩
   ·cases h
  exact ⟨h1,fun fs o h=>lastF_ok (t:=.w x) h1 h⟩
 | .p a c=>by
   refine ⟨fun _ h=>(by cases h),fun fs o h=>?_⟩
   have h:consF a.n (cvB P a).1 (cvB P c).2 fs o=true:=h
   cases fs with
   | nil=>cases h
   | cons f fs =>
    simp only [consF,Bool.and_eq_true] at h
    intro G cs hl hf
    have hl:cs.length=o + (a.n + c.n):=hl
    obtain ⟨x,hx,hr⟩:=hf f (List.mem_cons_self ..) ((cvB_ok P a).1 _ h.1.2)
    rw [Nat.eq_of_beq_eq_true h.1.1] at hr
    obtain ⟨y,hy,hq⟩:=(cvB_ok P c).2 _ _ h.2 G cs (by omega) fun g hg=>fun {α} {row} {k'} {ok} hcv=>hf g (List.mem_cons_of_mem _ hg) hcv
    exact ⟨(x,y),⟨hx,hy⟩,CRep.cons hr hq⟩
 | .o _=>⟨fun _ h=>(by cases h),fun _ _ h=>(by cases h)⟩

def cvL (P:Program):List Ty->List TypeId->Bool
 | [],[]=>true
 | T :: Ts,t :: ts=>(cvB P T).1 t && cvL P Ts ts
 | _,_=>false
def okTup:(Ts:List Ty)->tup Ts->Prop
 | [],_=>True
 | T :: Ts,x=>T.ok x.1/\okTup Ts x.2
def erTup:(Ts:List Ty)->tup Ts->List AV
 | [],_=>[]
 | T :: Ts,x=>avOf T x.1 :: erTup Ts x.2
theorem okWide_arr {P:Program} {w:World} {r:Reach} {base:Nat} {t:TypeId} {v:Value} {n:Nat} {e:TypeId} (ht:P.underlying t=some (.array n e)) (h:Value.okWide P w r base t v):∃ cs,v=.agg cs:=by
 unfold Value.okWide at h
 rw [ht] at h
 obtain ⟨cs,h,_⟩:=h
 exact ⟨cs,h⟩
theorem rep_val {P:Program} {W:World} {base:Nat} {T:Ty} {t:TypeId} {v:Value} {x:T.T} {m:HM} (hc:(cvB P T).1 t=true) (hw:Value.okWide P W .any base t v) (hr:CRep (gOf W) (T.ds x) v.cells.toList):AV.Rep (gOf W) m (avOf T x) v:=by
 cases T with
 | u=>cases hc
 | b=>obtain ⟨b,rfl⟩:=okWide_bool (kindB_ok hc).1 hw;exact crep_one hr rfl
 | i k=>obtain ⟨n,rfl⟩:=okWide_int (k:=k) (kindB_ok hc).1 hw;exact crep_one hr rfl
 | s=>obtain ⟨n,rfl⟩:=okWide_string (kindB_ok hc).1 hw;exact crep_one hr rfl
 | p a c=>cases hc
 | w y =>
  have hc:stB P y.n (cvB P y).2 t=true:=hc
  unfold stB at hc
  split at hc
  ·rename_i fs hu
   obtain ⟨cs,rfl,_⟩:=okWide_struct hu hw
   exact crep_agg hr
  ·cases hc
 | ar n k =>
  have hc:arB P n k t=true:=hc
  unfold arB at hc
  split at hc
  ·rename_i m' e hu
   obtain ⟨cs,rfl⟩:=okWide_arr hu hw
   exact crep_agg hr
  ·cases hc
 | sl y =>
  have hc:slB P y.n (cvB P y).1 t=true:=hc
  unfold slB at hc
  split at hc
  ·rename_i e hu
   obtain ⟨a,l,c,rfl⟩:=okWide_slice hu hw
   exact crep_one hr rfl
  ·cases hc
 | o y=>cases hc
theorem args_get {P:Program} {W:World} {base:Nat} {H:Type} {enc:TypeId × Value->H} {spare:Nat->Bool} {held:Bool} {m:HM}:∀ {Ts:List Ty} {ts:List TypeId} {vs:List Value} {ds:List (DataW H)} {ps:List MemPlace},cvL P Ts ts=true->DataW.TrodAll enc P W 0 spare held ts vs ds ps->(∀ (j:Nat) t v,ts[j]?=some t->vs[j]?=some v->Value.okWide P W .any base t v)->∃ x:tup Ts,okTup Ts x/\AV.RepL (gOf W) m (erTup Ts x) vs
 | [],[],vs,ds,ps,_,hA,_=>by
  obtain ⟨rfl,_,_⟩:=trodAll_nil hA
  exact ⟨(),trivial,rfl⟩
 | T :: Ts,t :: ts,vs,ds,ps,hc,hA,hw=>by
  simp only [cvL,Bool.and_eq_true] at hc
  obtain ⟨v,vs1,d,ds1,p0,p1,rfl,rfl,rfl,t0,hA1⟩:=trodAll_cons hA
  obtain ⟨f0,t0⟩:=t0
  obtain ⟨x,hx,hr⟩:=((cvB_ok P T).1 t hc.1).get enc W _ _ f0 _ _ t0
  obtain ⟨y,hy,hq⟩:=args_get (m:=m) hc.2 hA1 fun j t v h1 h2=>hw (j + 1) t v (by simpa using h1) (by simpa using h2)
  exact ⟨(x,y),⟨hx,hy⟩,_,_,rfl,rep_val hc.1 (hw 0 t v rfl rfl) hr,hq⟩
 | [],_ :: _,_,_,_,h,_,_=>by cases h
 | _ :: _,[],_,_,_,h,_,_=>by cases h

end Go.Eng

namespace Go.Eng
open Go.RowKit
@[simp] theorem q_if1 {α:Type} {a b:Option α}:if? true a b=a:=rfl
@[simp] theorem q_if0 {α:Type} {a b:Option α}:if? false a b=b:=rfl
@[simp] theorem q_bd {α β:Type} {x:α} {f:α->Option β}:bd? (some x) f=f x:=rfl
@[simp] theorem q_gl {α β:Type} {xs:List α} {a:Option β}:gl? xs.length xs a=a:=if_pos rfl
@[simp] theorem q_gd {α β:Type} [DecidableEq α] {x:α} {a:Option β}:gd? (x=x) a=a:=if_pos rfl
theorem q_gdT {α:Type} {p:Prop} [Decidable p] {a:Option α} (h:p):gd? p a=a:=if_pos h
@[simp] theorem q_jl {α β:Type} {r:β} {f:α->Option β}:jn? (some (Sum.inl r)) f=some r:=rfl
@[simp] theorem q_jr {α β:Type} {x:α} {f:α->Option β}:jn? (some (Sum.inr x)) f=f x:=rfl
@[simp] theorem q_inl {α β:Type} {r:β}:(inl? (some r):Option (β ⊕ α))=some (.inl r):=rfl
@[simp] theorem q_sml {α β γ:Type} {x:α} {f:α->Option γ} {g:β->Option γ}:sm? (Sum.inl x) f g=f x:=rfl
@[simp] theorem q_smr {α β γ:Type} {y:β} {f:α->Option γ} {g:β->Option γ}:sm? (Sum.inr y) f g=g y:=rfl
theorem q_wrap {n:Int} (h:-9223372036854775808 <= n) (h':n <= 9223372036854775807):IntKind.wrap .i64 n=n:=by rw [IntKind.wrap_i64];omega
theorem q_ck {α:Type} {n:Int} {a:Option α} (h:-9223372036854775808 <= n) (h':n <= 9223372036854775807):ck .i64 n a=a:=by unfold ck;rw [if_pos (q_wrap h h')]
theorem q_get {α β:Type} {xs:List α} {i:Nat} {x:α} {f:α->Option β} (h:xs[i]?=some x):get? xs (i:Int) f=f x:=by
 unfold get?
 rw [if_pos (Int.natCast_nonneg i),Int.toNat_natCast,h]
theorem q_geti {α β:Type} {xs:List α} {j:Int} {x:α} {f:α->Option β} (h0:0 <= j) (h:xs[j.toNat]?=some x):get? xs j f=f x:=by
 unfold get?
 rw [if_pos h0,h]
theorem q_gn {α β:Type} {xs:List α} {i:Nat} {x:α} {f:α->Option β} (h:xs[i]?=some x):gn? xs i f=f x:=by
 unfold gn?
 rw [h]
end Go.Eng


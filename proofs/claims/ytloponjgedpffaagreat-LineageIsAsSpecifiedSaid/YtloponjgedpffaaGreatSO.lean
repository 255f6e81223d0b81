/- Texts of this claim. -/
import Derived.Test.YtloponjgedpffaaGreatYB
import Derived.Shelf.SlSortCmp.NoneTotal
import Derived.Sort.OwnSorted
import Derived.Shelf.Sort.Plain
import Derived.Shelf.Slices.In.SortNone
import Derived.Shelf.Slices.CompactI
import Derived.Ground.Names2Prog
import Derived.Test.YtloponjgedpffaaGreatProg
import Derived.Sort.OwnSortedInts
import Derived.Ground.SlsfProg
import Derived.Shelf.SlGeneric
set_option linter.all false
set_option linter.unusedSimpArgs false
set_option linter.unusedVariables false
namespace Go.Eng
open Go.RowKit Go.Sort Go.Proofs Go.Shelf

def dvV:DV->Value
 | .I k n=>.int k n
 | _=>undef
def jA (t:Ty) (x:t.T):List Value:=(t.ds x).map dvV
def isI:DV->Bool
 | .I _ _=>true
 | _=>false
theorem aMo:∀ {t:Ty},vT t=true->∀ x:t.T,(t.ds x).all isI=true
 | .i k,_,x=>rfl
 | .p a b,h,x=>by
  have h:(vT a && vT b)=true:=h
  rw [Bool.and_eq_true] at h
  show (a.ds x.1 ++ b.ds x.2).all isI=true
  rw [List.all_append,aMo h.1,aMo h.2];rfl
 | .ar n k,_,x=>by
  show (x.l.map (DV.I k)).all isI=true
  rw [List.all_map,List.all_eq_true];intro _ _;rfl
 | .u,h,_ | .b,h,_ | .s,h,_ | .w _,h,_ | .sl _,h,_ | .o _,h,_=>by cases h
theorem aI1 {G:Gh} {d:DV} {v:Value} (h:isI d=true):DV.Rep G d v ↔ v=dvV d:=by
 cases d <;> first | (cases h;done) | exact Iff.rfl
theorem zO (t:Ty) (x:t.T):(jA t x).length=t.n:=by unfold jA;rw [List.length_map,t.ds_len]
theorem aL4 {t:Ty} (h:vT t=true) (x:t.T):∀ v ∈ jA (.w t) x,v.oneCell'=true:=by
 intro v hv
 obtain ⟨d,hd,rfl⟩:=List.mem_map.1 hv
 have:=List.all_eq_true.1 (aMo h x) d hd
 cases d <;> first | (cases this;done) | rfl
theorem aFd {G:Gh} {f:Nat->Option Value}:∀ {l:List DV} {o:Nat},l.all isI=true->(DV.cells G f o l ↔ ∀ c,c < l.length->f (o + c)=(l.map dvV)[c]?)
 | [],o,_=>⟨fun _ c h=>by simp at h,fun _=>trivial⟩
 | d :: l,o,h=>by
  rw [List.all_cons,Bool.and_eq_true] at h
  unfold DV.cells
  rw [aFd h.2]
  constructor
  ·rintro ⟨⟨v,h1,h2⟩,h3⟩ c hc
   cases c with
   | zero=>rw [Nat.add_zero,h1,(aI1 h.1).1 h2];rfl
   | succ c =>
    rw [show o + (c + 1)=o + 1 + c by omega,h3 c (by simpa using hc)];rfl
  ·intro h3
   refine ⟨⟨dvV d,?_,(aI1 h.1).2 rfl⟩,fun c hc=>?_⟩
   ·have:=h3 0 (by simp)
    rw [Nat.add_zero] at this;exact this
   ·have:=h3 (c + 1) (by simpa using hc)
    rw [show o + 1 + c=o + (c + 1) by omega,this];rfl
section
variable {t:Ty} (hI:vT t=true)
include hI
theorem aBv {G:Gh} {f:Nat->Option Value}:∀ {xs:List t.T} {o:Nat},DV.rows G f t.n o (xs.map (Ty.w t).ds) ↔ ∀ j c,j < xs.length->c < t.n->f (o + j * t.n + c)=((xs.map (jA (.w t)))[j]?.bind fun l=>l[c]?)
 | [],o=>⟨fun _ j c h=>by simp at h,fun _=>trivial⟩
 | x :: xs,o=>by
  show (_/\DV.cells G f o (t.ds x)/\DV.rows G f t.n (o + t.n) (xs.map (Ty.w t).ds)) ↔ _
  rw [aFd (aMo hI x),aBv]
  constructor
  ·rintro ⟨h1,h2,h3⟩ j c hj hc
   cases j with
   | zero =>
    rw [Nat.zero_mul,Nat.add_zero,h2 c (by rw [t.ds_len];exact hc)];rfl
   | succ j =>
    rw [show o + (j + 1) * t.n + c=o + t.n + j * t.n + c by rw [Nat.add_mul];omega,h3 j c (by simpa using hj) hc];rfl
  ·intro h
   refine ⟨t.ds_len x,fun c hc=>?_,fun j c hj hc=>?_⟩
   ·have:=h 0 c (by simp) (by rw [t.ds_len] at hc;exact hc)
    rw [Nat.zero_mul,Nat.add_zero] at this;exact this
   ·have:=h (j + 1) c (by simpa using hj) hc
    rw [show o + (j + 1) * t.n + c=o + t.n + j * t.n + c by rw [Nat.add_mul];omega] at this;exact this
theorem aNp (xs:List t.T) (z:t.T) (j c:Nat) (hj:j < xs.length) (hc:c < t.n):letI:Inhabited t.T:=⟨z⟩
  (flatK (jA (.w t)) t.n xs.toArray)[j * t.n + c]?=((xs.map (jA (.w t)))[j]?.bind fun l=>l[c]?):=by
 letI:Inhabited t.T:=⟨z⟩
 have lt:j * t.n + c < xs.toArray.size * t.n:=by
  have:=Nat.mul_le_mul_right t.n (show j + 1 <= xs.toArray.size from hj);rw [Nat.add_mul,Nat.one_mul] at this;omega
 have e1:(j * t.n + c) / t.n=j:=(blk_iff t.n j _ (by omega)).1 ⟨by omega,by omega⟩
 have e2:(j * t.n + c) % t.n=c:=by rw [Nat.mod_eq_sub_div_mul,e1];omega
 have hg:=get_flatK (jA (.w t)) t.n xs.toArray (j * t.n + c) lt
 rw [e1,e2] at hg
 have hs:j * t.n + c < (flatK (jA (.w t)) t.n xs.toArray).size:=by rw [size_flatK];exact lt
 rw [getElem!_pos (flatK (jA (.w t)) t.n xs.toArray) (j * t.n + c) hs] at hg
 rw [Array.getElem?_eq_getElem hs,hg]
 have hl:c < (jA (.w t) xs[j]).length:=by rw [zO];exact hc
 rw [List.getElem?_map,List.getElem?_eq_getElem hj]
 show _=(jA (.w t) xs[j])[c]?
 rw [List.getElem?_eq_getElem hl]
 have:xs.toArray[j]! = xs[j]:=by
  rw [getElem!_pos xs.toArray j (by simpa using hj)];simp
 rw [this,getElem!_pos (jA (.w t) xs[j]) c hl]
end
theorem aDc {w:World} {g:Nat} {cur F:Array Value} {e:TypeId} (hb:w.heap[g]?=some (.cells cur e (0,0))) (ht:∀ j,j < F.size->cur[j]?=F[j]?):Holds id w g 0 F:=by
 intro j hj
 refine ⟨?_,by simp [World.frozen?,hb]⟩
 simp only [World.cell?,hb,Nat.zero_add]
 simp only [Option.isSome_none,Bool.false_eq_true,if_false]
 rw [ht j hj,Array.getElem?_eq_getElem hj]
 simp [hj]
theorem aIu {w:World} {g n:Nat} {os:Array Obj} {cur:Array Value} {e:TypeId} {fr:Nat × Nat} (F:Array Value) (hb:w.heap[g]?=some (.cells cur e fr)) :
  (grow (putRow id (Sort.ahead w n) g 0 F) os).heap[g]?=some (.cells (putCells id 0 F cur) e fr):=by
 have hg:g < w.heap.size:=(Array.getElem?_eq_some_iff.1 hb).1
 rw [heap_grow_old _ _ (by simpa using hg)]
 simp [putRow,mapBlock,Sort.ahead,Array.getElem?_modify,hb,onCells]
theorem sW {w:World} {g n:Nat} {os:Array Obj} (F:Array Value):w.grownBy (grow (putRow id (Sort.ahead w n) g 0 F) os) (some g):=by
 refine ⟨rfl,rfl,rfl,by simp,fun k hk hne=>?_⟩
 rw [heap_grow_old _ _ (by simpa using hk)]
 have:g ≠ k:=fun e=>hne (by rw [e])
 simp [putRow,mapBlock,Sort.ahead,Array.getElem?_modify,this]
theorem CallDoes.calls' {P:Program} {f:FuncId} {vs:Array Value} {w:World} {R:Value->World->Prop} (hfn:aGs P f) (h:CallDoes P f vs w R):Calls P f vs w fun e w'=>∃ v,e=.returned v/\R v w':=by
 rcases h with ⟨_,h⟩ | ⟨v,w',h1,_⟩
 ·exact h
 ·exfalso
  obtain ⟨fd,q1,q2,q3⟩:=hfn
  have hnone:fd.body.isNone=false:=by rw [Option.isNone_eq_false_iff];exact q2
  simp only [callFunc,Sem.run_bind,run_program,Result.andThen_ok,q1,q3,hnone,Bool.false_eq_true,if_false] at h1
  simp at h1
section
variable {α:Type} (lt:α->α->Bool)
def aT7 (x:α):List α->List α
 | []=>[x]
 | y :: l=>match lt y x with
  | true=>y :: aT7 x l
  | false=>x :: y :: l
def aC2:List α->List α
 | []=>[]
 | x :: l=>aT7 lt x (aC2 l)
def aFa:List α->Bool
 | []=>true
 | x :: l=>l.all (fun y=>lt x y || lt y x) && aFa l
theorem aA0 (x:α):∀ l:List α,(aT7 lt x l).Perm (x :: l)
 | []=>.refl _
 | y :: l=>by
  unfold aT7
  split
  ·exact ((aA0 x l).cons y).trans (.swap x y l)
  ·exact .refl _
theorem iA:∀ l:List α,(aC2 lt l).Perm l
 | []=>.refl _
 | x :: l=>(aA0 lt x (aC2 lt l)).trans ((iA l).cons x)
variable {lt} (hS:SWO lt)
include hS
theorem aCt (x:α):∀ {l:List α},l.Pairwise (fun a b=>lt b a=false)->(aT7 lt x l).Pairwise (fun a b=>lt b a=false)
 | [],_=>List.pairwise_singleton _ _
 | y :: l,h=>by
  have h1:=List.pairwise_cons.1 h
  unfold aT7
  split
  ·rename_i hyx
   refine List.pairwise_cons.2 ⟨fun z hz=>?_,aCt x h1.2⟩
   rcases List.mem_cons.1 ((aA0 lt x l).mem_iff.1 hz) with rfl | hz
   ·cases h2:lt z y with
    | false=>rfl
    | true=>have:=hS.trans _ _ _ h2 hyx;rw [hS.irrefl] at this;cases this
   ·exact h1.1 z hz
  ·rename_i hyx
   refine List.pairwise_cons.2 ⟨fun z hz=>?_,h⟩
   rcases List.mem_cons.1 hz with rfl | hz
   ·exact hyx
   ·exact hS.ntrans _ _ _ (h1.1 z hz) hyx
theorem mJ:∀ l:List α,(aC2 lt l).Pairwise (fun a b=>lt b a=false)
 | []=>.nil
 | x :: l=>aCt hS x (mJ l)
omit hS in
theorem aLb:∀ {l:List α},aFa lt l=true->∀ a ∈ l,∀ b ∈ l,lt a b=false->lt b a=false->a=b
 | [],_,a,ha,_,_,_,_=>by cases ha
 | x :: l,h,a,ha,b,hb,h1,h2=>by
  unfold aFa at h
  rw [Bool.and_eq_true,List.all_eq_true] at h
  have key:∀ y ∈ l,¬ (lt x y=false/\lt y x=false):=fun y hy ⟨q1,q2⟩=>by
   have:=h.1 y hy
   rw [q1,q2] at this;cases this
  rcases List.mem_cons.1 ha with e | ha'
  ·rcases List.mem_cons.1 hb with e' | hb'
   ·rw [e,e']
   ·rw [e] at h1 h2;exact absurd ⟨h1,h2⟩ (key b hb')
  ·rcases List.mem_cons.1 hb with e' | hb'
   ·rw [e'] at h1 h2;exact absurd ⟨h2,h1⟩ (key a ha')
   ·exact aLb h.2 a ha' b hb' h1 h2
theorem aCj {l l':List α} (ha:aFa lt l=true) (hp:l'.Perm l) (hs:l'.Pairwise (fun a b=>lt b a=false)):aC2 lt l=l' :=
 List.Perm.eq_of_pairwise (le:=fun a b=>lt b a=false) (fun a b h1 h2 e1 e2=>aLb ha a ((iA lt l).mem_iff.1 h1) b (hp.mem_iff.1 h2) e2 e1) (mJ hS l) hs ((iA lt l).trans hp.symm)
end
def aTo {α:Type} (z:α) (lt:α->α->Bool) (l:List α):List α:=letI:Inhabited α:=⟨z⟩;(pdq lt l.toArray 0 l.toArray.size (Lib.bitLen l.toArray.size) true true).toList
def eY {α:Type} (z:α) (lt:α->α->Bool) (l:List α):List α:=match aFa lt l with
 | true=>aC2 lt l
 | false=>aTo z lt l
theorem aKq {α:Type} (z:α) {lt:α->α->Bool} (hS:SWO lt) (l:List α):(aTo z lt l).Perm l/\(aTo z lt l).Pairwise (fun a b=>lt b a=false):=by
 letI:Inhabited α:=⟨z⟩
 obtain ⟨⟨h1,_,h2⟩,h3⟩:=pdq_sorts lt hS l.toArray 0 l.toArray.size (Lib.bitLen l.toArray.size) true true (Nat.zero_le _) (Nat.le_refl _) (Or.inl rfl)
 unfold aTo
 generalize pdq lt l.toArray 0 l.toArray.size (Lib.bitLen l.toArray.size) true true=d' at h1 h2 h3
 rw [<- h1,Array.extract_size,h1,Array.extract_size] at h2
 refine ⟨h2,List.pairwise_iff_getElem.2 fun i j hi hj hij=>?_⟩
 have hi':i < d'.size:=by simpa using hi
 have hj':j < d'.size:=by simpa using hj
 have:=h3 i j (Nat.zero_le _) hij (by omega)
 rw [getElem!_pos d' j hj',getElem!_pos d' i hi'] at this
 simpa using this
theorem aL2 {α:Type} (z:α) {lt:α->α->Bool} (hS:SWO lt) (l:List α):(eY z lt l).Perm l/\(eY z lt l).Pairwise (fun a b=>lt b a=false):=by
 unfold eY
 split
 ·exact ⟨iA lt l,mJ hS l⟩
 ·exact aKq z hS l
theorem aY1 {α:Type} (z:α) {lt:α->α->Bool} (hS:SWO lt) (l:List α):aTo z lt l=eY z lt l:=by
 unfold eY
 split
 ·rename_i h
  exact (aCj hS h (aKq z hS l).1 (aKq z hS l).2).symm
 ·rfl
theorem vI {α:Type} (z:α) {lt:α->α->Bool} (hS:SWO lt) (l:List α):(eY z lt l).length=l.length:=(aL2 z hS l).1.length_eq
theorem aV6 {P:Program} {g:Nat} {t:Ty} (hI:vT t=true) (z:t.T) {cf:t.T->t.T->Int} (hfn:aGs P g) (hc:∀ x y:t.T,ACall P g [aM (.w t) x,aM (.w t) y] [] (.D (.I .i64 (cf x y))) [] []) {G:Gh} {w:World} {b:Nat}
  (hgh:∀ b o v,G b o=some v->w.cell? ⟨b,o,none⟩=some v) (hG:∀ o,G b o=none) (hgl:GlOk G) (size:Nat):letI:Inhabited t.T:=⟨z⟩;CmpLays P g #[] (jA (.w t)) t.n cf b 0 size w:=by
 letI:Inhabited t.T:=⟨z⟩
 intro n os dk _ x y
 have hgr:=sW (w:=w) (g:=b) (n:=n) (os:=os) (flatK (jA (.w t)) t.n dk)
 unfold sortWorldK putRowK
 generalize grow (putRow id (Sort.ahead w n) b 0 (flatK (jA (.w t)) t.n dk)) os=W at hgr |-
 obtain ⟨g1,g2,g3,g4,g5⟩:=hgr
 have hS:Sim G (fun _=>none) (iP [] []) W:=⟨(fun _ _ _ h=>by cases h),(fun _ h=>by cases h),(fun _ _ _ _ _ h=>by cases h),(fun b2 o v hg=>by
  have hne:b ≠ b2:=by
   rintro rfl
   rw [hG o] at hg;cases hg
  have:=hgh _ _ _ hg
  have hlt:b2 < w.heap.size:=by
   simp only [World.cell?] at this
   cases hx:w.heap[b2]? with
   | none=>rw [hx] at this;simp at this
   | some _=>exact (Array.getElem?_eq_some_iff.1 hx).1
  have he:=g5 b2 hlt (fun e=>hne (Option.some.inj e).symm)
  simp only [World.cell?,he] at this |-
  exact this),(fun _ h=>by cases h),hgl,(fun _ _ _ _ h=>by cases h)⟩
 have rep:∀ x:t.T,AV.Rep G (fun _=>none) (aM (.w t) x) (.agg (jA (.w t) x).toArray):=fun x=>by
  show AV.Rep G (fun _=>none) (AV.agg ((t.ds x).map .D)) _
  unfold AV.Rep
  refine ⟨_,rfl,?_⟩
  have:=aMo hI x
  show AV.RepL G (fun _=>none) ((t.ds x).map .D) ((t.ds x).map dvV)
  generalize t.ds x=l at this
  induction l with
  | nil=>rfl
  | cons d l ih =>
   rw [List.all_cons,Bool.and_eq_true] at this
   show ∃ v vs',_/\_
   exact ⟨_,_,rfl,by unfold AV.Rep;exact (aI1 this.1).2 rfl,ih this.2⟩
 have hcall:=hc x y W G _ #[.agg (jA (.w t) x).toArray,.agg (jA (.w t) y).toArray] hS (fun _=>rfl) ⟨_,_,rfl,rep x,_,_,rfl,rep y,rfl⟩
 refine Calls.mono (CallDoes.calls' hfn hcall) ?_
 rintro e w' ⟨v,rfl,G',m',_,hv,hF,_⟩
 unfold AV.Rep DV.Rep at hv
 subst hv
 refine ⟨rfl,w'.drawn - W.drawn,w'.heap.extract W.heap.size w'.heap.size,?_⟩
 have h1:w'.heap=W.heap ++ w'.heap.extract W.heap.size w'.heap.size:=by
  apply Array.ext'
  have hsz:=hF.size
  apply List.ext_getElem?
  intro i
  rw [Array.toList_append,List.getElem?_append]
  split
  ·rename_i hi
   have:=hF.heap i (by simpa using hi) (fun ⟨_,_,h,_⟩=>by cases h)
   rw [Array.getElem?_toList,Array.getElem?_toList,this]
  ·rename_i hi
   rw [Array.getElem?_toList,Array.getElem?_toList,Array.getElem?_extract]
   simp only [Array.length_toList] at hi |-
   by_cases hlt:i < w'.heap.size
   ·rw [if_pos (by omega)];congr 1;omega
   ·rw [if_neg (by omega),Array.getElem?_eq_none (by omega)]
 have ho:=hF.os
 have ht:=hF.tape
 have hu:=hF.output
 obtain ⟨ht1,ht2⟩:=ht
 cases w'
 cases W
 simp only at h1 ho ht1 ht2 hu
 subst ho;subst ht1;subst hu
 unfold grow World.drewN
 simp only [World.mk.injEq,and_true,true_and]
 exact ⟨h1,by omega⟩
theorem aEv {P:Program} {fn g:Nat} {t:Ty} (hI:vT t=true) (z:t.T) (hp:0 < t.n) (hfn:aGs P fn) {cf:t.T->t.T->Int} (hO:SWO (ltOf cf)) (hg:aGs P g) (hcf:∀ x y:t.T,ACall P g [aM (.w t) x,aM (.w t) y] [] (.D (.I .i64 (cf x y))) [] [])
  (hnone:∀ (p:Option Addr) (cap:Nat) (w:World),Calls P fn #[.slice p 0 cap,.func (.func g) #[] #[]] w fun e w'=>e=.returned (.tuple #[])/\w'=w)
  (hc:letI:Inhabited t.T:=⟨z⟩;∀ (blk cap:Nat) (xs:List t.T) (w:World),CmpLays P g #[] (jA (.w t)) t.n cf blk 0 xs.toArray.size w->HoldsK (jA (.w t)) t.n w blk 0 xs.toArray->blk < w.heap.size->xs.toArray.size < 4611686018427387904 ->
   Calls P fn #[.slice (some ⟨blk,0,none⟩) xs.toArray.size cap,.func (.func g) #[] #[]] w fun e w'=>e=.returned (.tuple #[])/\∃ n os,w'=sortWorldK (jA (.w t)) t.n w blk 0 n (pdq (ltOf cf) xs.toArray 0 xs.toArray.size (Lib.bitLen xs.toArray.size) true true) os)
  (xs:List t.T) (hx:xs.length < 4611686018427387904) :
  ACall P fn [.sl (.B 0) t.n 0 xs.length,.clo g []] [some (.row true t.n (xs.map (Ty.w t).ds))] (.tup []) [some (.row true t.n ((eY z (ltOf cf) xs).map (Ty.w t).ds))] []:=by
 letI:Inhabited t.T:=⟨z⟩
 intro w G m vs hS hm hr
 obtain ⟨v0,l0,hv0,⟨h1,loc,hloc,h2⟩,v1,l1,hv1,⟨vs1,hvf,hvn⟩,h3⟩:=hr
 subst h3
 have hvn:vs1.toList=[]:=hvn
 obtain rfl:vs1=#[]:=by apply Array.toList_inj.1;rw [hvn]
 subst hvf
 have hlk:∀ (b:Blk) h bl,iP [some b] [] h=some bl->h=.B 0/\bl=b:=by
  intro b h bl e
  cases h with
  | B i=>cases i with
   | zero=>cases e;exact ⟨rfl,rfl⟩
   | succ i=>cases e
  | O i=>cases e
 have hnd:loc ≠ .dead:=by
  rintro rfl
  cases hS.dead _ hloc
 obtain rfl:vs=#[v0,.func (.func g) #[] #[]]:=by apply Array.toList_inj.1;rw [hv0,hv1]
 refine .inl ⟨hfn,?_⟩
 rcases h2 hnd with ⟨a,rfl,h0⟩ | ⟨b,sz,cap,rfl,rfl,hc1,hc2⟩
 ·obtain rfl:xs=[]:=List.length_eq_zero_iff.1 h0
  have hF:eY z (ltOf cf) []=[]:=List.length_eq_zero_iff.1 (vI z hO [])
  refine (hnone a 0 w).mono ?_
  rintro e w' ⟨rfl,rfl⟩
  rw [hF]
  exact ⟨_,rfl,G,m,hS,⟨_,rfl,rfl⟩,Fr.refl _ _ _ _,fun i=>SameB.refl _,fun h l b h1 h2=>.inr ⟨h,l,h1,h2⟩,fun i _=>hm i⟩
 ·obtain ⟨bl,hbl,hrep⟩:=hS.blk _ _ _ hloc
  obtain ⟨_,rfl⟩:=hlk _ _ _ hbl
  obtain ⟨cur,T,hb,hsz,hk,hrows,hG⟩:=hrep
  have hvals:=(aBv hI (xs:=xs)).1 hrows
  have split:∀ (ys:List t.T) (q:Nat),q < ys.length * t.n->∃ j c,j < ys.length/\c < t.n/\q=j * t.n + c:=fun ys q hq =>
   ⟨q / t.n,q % t.n,Nat.div_lt_of_lt_mul (by rw [Nat.mul_comm];exact hq),Nat.mod_lt _ hp,by rw [Nat.mul_comm];exact (Nat.div_add_mod q t.n).symm⟩
  have hH:HoldsK (jA (.w t)) t.n w b 0 xs.toArray:=aDc hb fun q hq=>by
   rw [size_flatK] at hq
   obtain ⟨j,c,hj,hc,rfl⟩:=split xs q hq
   rw [aNp hI xs z j c hj hc,<- hvals j c hj hc,Nat.zero_add]
  have hb0:b < w.heap.size:=(Array.getElem?_eq_some_iff.1 hb).1
  rw [Nat.zero_mul]
  have hcmp:=aV6 hI z hg hcf hS.gh hG hS.gl xs.toArray.size
  refine (hc b cap xs w hcmp hH hb0 (by simpa using hx)).mono ?_
  rintro e w' ⟨rfl,n,os,rfl⟩
  have hpd:(pdq (ltOf cf) xs.toArray 0 xs.toArray.size (Lib.bitLen xs.toArray.size) true true)=(eY z (ltOf cf) xs).toArray:=by
   rw [<- aY1 z hO xs]
   unfold aTo
   simp
  rw [hpd]
  generalize hys:eY z (ltOf cf) xs=ys
  have hl:ys.length=xs.length:=by rw [<- hys];exact vI z hO _
  have hdr:TD w (grow (putRow id (Sort.ahead w n) b 0 (flatK (jA (.w t)) t.n ys.toArray)) os):=⟨rfl,Nat.le_add_right _ _⟩
  have hb':=aIu (n:=n) (os:=os) (flatK (jA (.w t)) t.n ys.toArray) hb
  have hgr:=sW (w:=w) (g:=b) (n:=n) (os:=os) (flatK (jA (.w t)) t.n ys.toArray)
  unfold sortWorldK putRowK
  revert hb' hgr hdr
  generalize grow (putRow id (Sort.ahead w n) b 0 (flatK (jA (.w t)) t.n ys.toArray)) os=w'
  intro hdr hb' hgr
  obtain ⟨g1,g2,g3,g4,g5⟩:=hgr
  have hle:xs.length * t.n <= cur.size:=by
   apply Classical.byContradiction
   intro hlt
   have hq:cur.size < xs.length * t.n:=by omega
   obtain ⟨j,c,hj,hc,e⟩:=split xs _ hq
   have:=hvals j c hj hc
   rw [Nat.zero_add,<- e,Array.getElem?_eq_none (Nat.le_refl _),List.getElem?_map,List.getElem?_eq_getElem hj] at this
   have h2:(jA (.w t) xs[j])[c]?=none:=this.symm
   rw [List.getElem?_eq_none_iff,zO] at h2
   exact absurd hc (Nat.not_lt.2 h2)
  refine ⟨_,rfl,G,m,?_,⟨_,rfl,rfl⟩,⟨g1,hdr,g3,g4,fun b' hb1 ho=>?_,fun _ _ _ _=>rfl,Gh.le.refl G⟩,fun i=>SameB.refl _,fun h l b h1 h2=>.inr ⟨h,l,h1,h2⟩,fun i _=>hm i⟩
  ·refine ⟨?_,?_,hS.injG,?_,?_,hS.gl,?_⟩
   ·intro h b2 sz2 hm2
    obtain ⟨bl,hbl,_⟩:=hS.blk _ _ _ hm2
    obtain ⟨rfl,rfl⟩:=hlk _ _ _ hbl
    rw [hloc] at hm2
    cases hm2
    refine ⟨_,rfl,_,T,hb',by rw [putCells,Array.size_mapIdx];exact hsz,by simpa [hl] using hk,(aBv hI).2 fun j c hj hc=>?_,hG⟩
    have hjx:j * t.n + c < ys.length * t.n:=by
     have:=Nat.mul_le_mul_right t.n (show j + 1 <= ys.length from hj);rw [Nat.add_mul,Nat.one_mul] at this;omega
    have hsz':j * t.n + c < (flatK (jA (.w t)) t.n ys.toArray).size:=by rw [size_flatK];exact hjx
    rw [<- aNp hI ys z j c hj hc,Nat.zero_add]
    have hcs:j * t.n + c < cur.size:=by rw [hl] at hjx;omega
    simp only [putCells,Array.getElem?_mapIdx,Array.getElem?_eq_getElem hcs,Option.map_some,Nat.zero_le,true_and,Nat.zero_add,if_pos hsz',id,Nat.sub_zero]
    rw [getElem!_pos (flatK (jA (.w t)) t.n ys.toArray) (j * t.n + c) hsz',Array.getElem?_eq_getElem hsz']
   ·intro h hm2
    obtain ⟨mt,k,e⟩:=hS.nil _ hm2
    obtain ⟨rfl,_⟩:=hlk _ _ _ e
    rw [hloc] at hm2;cases hm2
   ·intro b2 o v hg
    have hne:b ≠ b2:=by
     rintro rfl
     rw [hG o] at hg;cases hg
    have:=hS.gh _ _ _ hg
    have hlt:b2 < w.heap.size:=by
     simp only [World.cell?] at this
     cases hx:w.heap[b2]? with
     | none=>rw [hx] at this;simp at this
     | some _=>exact (Array.getElem?_eq_some_iff.1 hx).1
    have he:=g5 b2 hlt (fun e=>hne (Option.some.inj e).symm)
    simp only [World.cell?,he] at this |-
    exact this
   ·intro h hd
    have:=hS.dead _ hd
    cases h with
    | B i=>cases i with
     | zero=>cases this
     | succ i=>rfl
    | O i=>rfl
   ·intro h b2 sz2 fp hm2
    obtain ⟨bl,hbl,_⟩:=hS.blkx _ _ _ _ hm2
    obtain ⟨rfl,_⟩:=hlk _ _ _ hbl
    rw [hloc] at hm2;cases hm2
  ·exact g5 b' hb1 fun e=>ho (by cases e;exact Own.at_ hloc)
end Go.Eng

namespace Go.Proofs
open Go.Shelf
def Tryz.lays189_ren:Go.Shelf.Ren:=⟨fun | 189=>65 | 125=>79 | 257=>86 | 128=>97 | 129=>98 | 294=>99 | 295=>100 | 296=>101 | 297=>102 | 298=>103 | 299=>104 | 216=>84 | 300=>105 | 301=>106 | 328=>120 | 329=>116 | 330=>117 | 331=>121 | 332=>122 | 215=>80 | 343=>127 | n=>n,fun | 28=>24 | 3=>3 | 46=>126 | 0=>0 | 51=>142 | 53=>144 | 4=>4 | 183=>136 | 182=>135 | 131=>94 | 5=>5 | 9=>9 | 218=>154 | 222=>158 | 228=>164 | 229=>165 | n=>n,fun | n=>n⟩
theorem Tryz.lays189:Go.Proofs.Lays.n189 Tryz.prog Tryz.lays189_ren:={
 mixed:=by kernel_rfl
 f125:=Tryz.func79.trans (congrArg some (by kernel_rfl))
 f128:=Tryz.func97.trans (congrArg some (by kernel_rfl))
 f129:=Tryz.func98.trans (congrArg some (by kernel_rfl))
 f189:=Tryz.func65.trans (congrArg some (by kernel_rfl))
 f215:=Tryz.func80.trans (congrArg some (by kernel_rfl))
 f216:=Tryz.func84.trans (congrArg some (by kernel_rfl))
 f257:=Tryz.func86.trans (congrArg some (by kernel_rfl))
 f294:=Tryz.func99.trans (congrArg some (by kernel_rfl))
 f295:=Tryz.func100.trans (congrArg some (by kernel_rfl))
 f296:=Tryz.func101.trans (congrArg some (by kernel_rfl))
 f297:=Tryz.func102.trans (congrArg some (by kernel_rfl))
 f298:=Tryz.func103.trans (congrArg some (by kernel_rfl))
 f299:=Tryz.func104.trans (congrArg some (by kernel_rfl))
 f300:=Tryz.func105.trans (congrArg some (by kernel_rfl))
 f301:=Tryz.func106.trans (congrArg some (by kernel_rfl))
 f328:=Tryz.func120.trans (congrArg some (by kernel_rfl))
 f329:=Tryz.func116.trans (congrArg some (by kernel_rfl))
 f330:=Tryz.func117.trans (congrArg some (by kernel_rfl))
 f331:=Tryz.func121.trans (congrArg some (by kernel_rfl))
 f332:=Tryz.func122.trans (congrArg some (by kernel_rfl))
 f343:=Tryz.func127.trans (congrArg some (by kernel_rfl))
 t0:=Tryz.underlying0
 a0:=Tryz.isAgg0
 z0:=Tryz.sizeOf0
 v0:=Tryz.zeroValue0
 t3:=Tryz.underlying3
 a3:=Tryz.isAgg3
 z3:=Tryz.sizeOf3
 v3:=Tryz.zeroValue3
 t4:=Tryz.underlying4
 a4:=Tryz.isAgg4
 z4:=Tryz.sizeOf4
 v4:=Tryz.zeroValue4
 t5:=Tryz.underlying5
 a5:=Tryz.isAgg5
 z5:=Tryz.sizeOf5
 v5:=Tryz.zeroValue5
 t9:=Tryz.underlying9
 a9:=Tryz.isAgg9
 z9:=Tryz.sizeOf9
 v9:=Tryz.zeroValue9
 t28:=Tryz.underlying24
 a28:=Tryz.isAgg24
 z28:=Tryz.sizeOf24
 v28:=Tryz.zeroValue24
 t46:=Tryz.underlying126
 a46:=Tryz.isAgg126
 z46:=Tryz.sizeOf126
 v46:=Tryz.zeroValue126
 t51:=Tryz.underlying142
 a51:=Tryz.isAgg142
 z51:=Tryz.sizeOf142
 v51:=Tryz.zeroValue142
 t53:=Tryz.underlying144
 a53:=Tryz.isAgg144
 z53:=Tryz.sizeOf144
 v53:=Tryz.zeroValue144
 t131:=Tryz.underlying94
 a131:=Tryz.isAgg94
 z131:=Tryz.sizeOf94
 v131:=Tryz.zeroValue94
 t182:=Tryz.underlying135
 a182:=Tryz.isAgg135
 z182:=Tryz.sizeOf135
 v182:=Tryz.zeroValue135
 t183:=Tryz.underlying136
 a183:=Tryz.isAgg136
 z183:=Tryz.sizeOf136
 v183:=Tryz.zeroValue136
 t218:=Tryz.underlying154
 a218:=Tryz.isAgg154
 z218:=Tryz.sizeOf154
 v218:=Tryz.zeroValue154
 t222:=Tryz.underlying158
 a222:=Tryz.isAgg158
 z222:=Tryz.sizeOf158
 v222:=Tryz.zeroValue158
 t228:=Tryz.underlying164
 a228:=Tryz.isAgg164
 z228:=Tryz.sizeOf164
 v228:=Tryz.zeroValue164
 t229:=Tryz.underlying165
 a229:=Tryz.isAgg165
 z229:=Tryz.sizeOf165
 v229:=Tryz.zeroValue165 }
def Tryz.lays20_ren:Go.Shelf.Ren:=⟨fun | 20=>66 | n=>n,fun | 22=>24 | 3=>3 | 4=>4 | 0=>0 | n=>n,fun | n=>n⟩
theorem Tryz.lays20:Go.Proofs.Lays2.n20 Tryz.prog Tryz.lays20_ren:={
 mixed:=by kernel_rfl
 f20:=Tryz.func66.trans (congrArg some (by kernel_rfl))
 t0:=Tryz.underlying0
 a0:=Tryz.isAgg0
 z0:=Tryz.sizeOf0
 v0:=Tryz.zeroValue0
 t3:=Tryz.underlying3
 a3:=Tryz.isAgg3
 z3:=Tryz.sizeOf3
 v3:=Tryz.zeroValue3
 t4:=Tryz.underlying4
 a4:=Tryz.isAgg4
 z4:=Tryz.sizeOf4
 v4:=Tryz.zeroValue4
 t22:=Tryz.underlying24
 a22:=Tryz.isAgg24
 z22:=Tryz.sizeOf24
 v22:=Tryz.zeroValue24
 i3:=by kernel_rfl }
end Go.Proofs

namespace Go.Proofs.Tryz
open Go.Eng Go.RowKit Go.Sort Go.Shelf

def ins (x:Int):List Int->List Int
 | []=>[x]
 | y :: l=>if x <= y then x :: y :: l else y :: ins x l
def srt:List Int->List Int
 | []=>[]
 | x :: l=>ins x (srt l)
theorem aEa (x:Int):∀ l:List Int,(ins x l).Perm (x :: l)
 | []=>.refl _
 | y :: l=>by
  unfold ins
  split
  ·exact .refl _
  ·exact ((aEa x l).cons y).trans (.swap x y l)
theorem yG:∀ l:List Int,(srt l).Perm l
 | []=>.refl _
 | x :: l=>(aEa x (srt l)).trans ((yG l).cons x)
theorem aFe (x:Int):∀ {l:List Int},l.Pairwise (· <= ·)->(ins x l).Pairwise (· <= ·)
 | [],_=>List.pairwise_singleton _ _
 | y :: l,h=>by
  have h1:=List.pairwise_cons.1 h
  unfold ins
  split
  ·rename_i hxy
   exact List.pairwise_cons.2 ⟨fun z hz=>by
    rcases List.mem_cons.1 hz with rfl | hz
    ·exact hxy
    ·exact Int.le_trans hxy (h1.1 z hz),h⟩
  ·refine List.pairwise_cons.2 ⟨fun z hz=>?_,aFe x h1.2⟩
   rcases List.mem_cons.1 ((aEa x l).mem_iff.1 hz) with rfl | hz
   ·omega
   ·exact h1.1 z hz
theorem rN:∀ l:List Int,(srt l).Pairwise (· <= ·)
 | []=>.nil
 | x :: l=>aFe x (rN l)
theorem bC0 {l l':List Int} (h:l.Perm l'):srt l=srt l' :=
 List.Perm.eq_of_pairwise (le:=fun a b:Int=>a <= b) (fun _ _ _ _ h1 h2=>Int.le_antisymm h1 h2) (rN l) (rN l') (((yG l).trans h).trans (yG l').symm)
theorem bFn (l:List Int):srt l=l.mergeSort fun x y=>decide (x <= y):=by
 refine List.Perm.eq_of_pairwise (le:=fun a b:Int=>a <= b) (fun _ _ _ _ h1 h2=>Int.le_antisymm h1 h2) (rN l) ?_ ((yG l).trans (List.mergeSort_perm l _).symm)
 have:=List.pairwise_mergeSort (le:=fun x y:Int=>decide (x <= y)) (fun a b c h1 h2=>by simp only [decide_eq_true_eq] at *;omega) (fun a b=>by simp only [Bool.or_eq_true,decide_eq_true_eq];omega) l
 exact this.imp fun h=>of_decide_eq_true h
def lI (_N:Nat) (xs:List Int):Option (List Int):=if xs.length < 4611686018427387904 then some (srt xs) else none
abbrev lJ (N:Nat):Sig:=⟨65,⟨[(0,.slw (.B 0) (.i .i64) 0)],[some (.row true (.i .i64) [])],[]⟩,[⟨[],[some (.row true (.i .i64) [])],[]⟩],lI N⟩

def kI (xs:List Int):List (List DV):=xs.map fun x=>[DV.I .i64 x]
theorem wI {G:Gh} {vs:Array Value} {xs:List Int} (h:DV.rows G (fun o=>vs[o]?) 1 0 (kI xs)):vs.toList.take xs.length=xs.map (Value.int .i64):=by
 apply List.ext_getElem?
 intro j
 by_cases hj:j < xs.length
 ·rw [List.getElem?_take_of_lt hj,Array.getElem?_toList]
  have h1:(kI xs)[j]?=some [DV.I .i64 xs[j]]:=by simp [kI,hj]
  obtain ⟨_,h2⟩:=DV.rows_get h h1
  obtain ⟨⟨v,h3,h4⟩,_⟩:=h2
  have h5:v=.int .i64 xs[j]:=h4
  subst h5
  rw [show 0 + j * 1=j by omega] at h3
  have h3:vs[j]?=_:=h3
  rw [h3]
  simp [hj]
 ·rw [List.getElem?_take_eq_none (by omega),List.getElem?_eq_none (by simp;omega)]
theorem uM {G:Gh} {vs:Array Value}:∀ {xs:List Int} {o:Nat},(∀ j (h:j < xs.length),vs[o + j]?=some (Value.int .i64 xs[j]))->DV.rows G (fun o=>vs[o]?) 1 o (kI xs)
 | [],_,_=>trivial
 | x :: xs,o,h=>by
  refine ⟨rfl,⟨⟨.int .i64 x,?_,rfl⟩,trivial⟩,uM fun j hj=>?_⟩
  ·have:=h 0 (by simp)
   simpa using this
  ·have:=h (j + 1) (by simpa using hj)
   rw [show o + 1 + j=o + (j + 1) by omega,this]
   simp

theorem tA (N:Nat):aJ prog (lJ N):=by
 rintro _ ⟨xs,⟨⟩⟩ r hF nbs hn
 have hF:(if xs.length < 4611686018427387904 then some (srt xs) else none)=some r:=hF
 rw [bFn] at hF
 split at hF
 rotate_left
 ·cases hF
 rename_i hlen
 cases hF
 have hn:nbs.map some=([]:List (Option Blk)):=hn
 obtain rfl:nbs=[]:=List.map_eq_nil_iff.1 hn
 show ACall prog 65 [.sl (.B 0) 1 0 xs.length] [some (.row true 1 (kI xs))] (.tup []) [some (.row true 1 (kI (xs.mergeSort fun x y=>decide (x <= y))))] []
 intro w G m vs hS hm hr
 obtain ⟨v0,l0,hv0,⟨h1,loc,hloc,h2⟩,h3⟩:=hr
 subst h3
 have hlk:∀ (b:Blk) h bl,iP [some b] [] h=some bl->h=.B 0/\bl=b:=by
  intro b h bl e
  cases h with
  | B i=>cases i with
   | zero=>cases e;exact ⟨rfl,rfl⟩
   | succ i=>cases e
  | O i=>cases e
 have hnd:loc ≠ .dead:=by
  rintro rfl
  cases hS.dead _ hloc
 have hfn:aGs prog 65:=⟨_,func65,rfl,rfl⟩
 obtain rfl:vs=#[v0]:=by apply Array.ext';simpa using hv0
 refine .inl ⟨hfn,?_⟩
 rcases h2 hnd with ⟨a,rfl,h0⟩ | ⟨b,sz,cap,rfl,rfl,hc1,hc2⟩
 ·obtain rfl:xs=[]:=List.length_eq_zero_iff.1 h0
  refine (Any.slices_Sort_int_none lays189 a 0 w).mono ?_
  rintro e w' ⟨rfl,rfl⟩
  have e:([]:List Int).mergeSort (fun x y=>decide (x <= y))=[]:=List.mergeSort_nil
  rw [e]
  exact ⟨_,rfl,G,m,hS,⟨_,rfl,rfl⟩,Fr.refl _ _ _ _,fun i=>SameB.refl _,fun h l b h1 h2=>.inr ⟨h,l,h1,h2⟩,fun i _=>hm i⟩
 ·obtain ⟨bl,hbl,hrep⟩:=hS.blk _ _ _ hloc
  obtain ⟨_,rfl⟩:=hlk _ _ _ hbl
  obtain ⟨cur,T,hb,hsz,hk,hrows,hG⟩:=hrep
  have ht:=wI hrows
  have hle:xs.length <= cur.size:=by
   have:=congrArg List.length ht
   simp at this
   omega
  have hb0:b < w.heap.size:=(Array.getElem?_eq_some_iff.1 hb).1
  refine (Any.slices_Sort_int lays189 b (0 * 1) cap xs w (by rw [Nat.zero_mul];exact holds_of_blockI hb ht) hb0 hlen).mono ?_
  rintro e w' ⟨rfl,n,os,rfl⟩
  generalize hys:xs.mergeSort (fun x y=>decide (x <= y))=ys
  have hl:ys.length=xs.length:=by rw [<- hys];exact List.length_mergeSort _
  have hb':=heap_sortedI (n:=n) (os:=os) ys.toArray hb
  have hgr:=grownBy_sortedI (w:=w) (g:=b) (n:=n) (os:=os) ys.toArray
  have hdr:TD w (Sort.grow (putRow (Value.int .i64) (Sort.ahead w n) b 0 ys.toArray) os):=⟨rfl,Nat.le_add_right _ _⟩
  rw [Nat.zero_mul]
  revert hb' hgr hdr
  generalize Sort.grow (putRow (Value.int .i64) (Sort.ahead w n) b 0 ys.toArray) os=w'
  intro hb' hgr hdr
  obtain ⟨g1,g2,g3,g4,g5⟩:=hgr
  refine ⟨_,rfl,G,m,?_,⟨_,rfl,rfl⟩,⟨g1,hdr,g3,g4,fun b' hb1 ho=>?_,fun _ _ _ _=>rfl,Gh.le.refl G⟩,fun i=>SameB.refl _,fun h l b h1 h2=>.inr ⟨h,l,h1,h2⟩,fun i _=>hm i⟩
  ·refine ⟨?_,?_,hS.injG,?_,?_,hS.gl,?_⟩
   ·intro h b2 sz2 hm2
    obtain ⟨bl,hbl,_⟩:=hS.blk _ _ _ hm2
    obtain ⟨rfl,rfl⟩:=hlk _ _ _ hbl
    rw [hloc] at hm2
    cases hm2
    refine ⟨_,rfl,_,T,hb',by rw [putCells,Array.size_mapIdx];exact hsz,by simpa [kI,hl] using hk,uM fun j hj=>?_,hG⟩
    have:=congrArg (fun l=>l[j]?) (take_putCellsI cur ys (by omega))
    simp only [List.getElem?_take_of_lt hj,Array.getElem?_toList] at this
    rw [Nat.zero_add,this]
    simp [hj]
   ·intro h hm2
    obtain ⟨mt,k,e⟩:=hS.nil _ hm2
    obtain ⟨rfl,_⟩:=hlk _ _ _ e
    rw [hloc] at hm2;cases hm2
   ·intro b2 o v hg
    have hne:b ≠ b2:=by
     rintro rfl
     rw [hG o] at hg;cases hg
    have:=hS.gh _ _ _ hg
    have hlt:b2 < w.heap.size:=by
     simp only [World.cell?] at this
     cases hx:w.heap[b2]? with
     | none=>rw [hx] at this;simp at this
     | some _=>exact (Array.getElem?_eq_some_iff.1 hx).1
    have he:=g5 b2 hlt (fun e=>hne (Option.some.inj e).symm)
    simp only [World.cell?,he] at this |-
    exact this
   ·intro h hd
    have:=hS.dead _ hd
    cases h with
    | B i=>cases i with
     | zero=>cases this
     | succ i=>rfl
    | O i=>rfl
   ·intro h b2 sz2 fp hm2
    obtain ⟨bl,hbl,_⟩:=hS.blkx _ _ _ _ hm2
    obtain ⟨rfl,_⟩:=hlk _ _ _ hbl
    rw [hloc] at hm2;cases hm2
  ·exact g5 b' hb1 fun e=>ho (by cases e;exact Own.at_ hloc)
end Go.Proofs.Tryz

namespace Go.Proofs.Tryz
open Go.Eng Go.RowKit Go.Sort Go.Shelf
def bGl:List Int->List Int
 | []=>[]
 | [x]=>[x]
 | x :: y :: l=>if x=y then bGl (y :: l) else x :: bGl (y :: l)
def iM (_N:Nat) (xs:List Int):Option (List Int):=if xs.length <= 9223372036854775807 then some (Go.Lib.compact xs) else none
abbrev iO (N:Nat):Sig:=⟨66,⟨[(0,.slw (.B 0) (.i .i64) 0)],[some (.row true (.i .i64) [])],[]⟩,[⟨[(0,.slw (.O 0) (.i .i64) 0)],[none],[some (.row true (.i .i64) [])]⟩],iM N⟩
theorem bCl (d:Array Int):∀ m,(Go.Lib.compactUpTo d m).length <= m
 | 0=>by simp [Go.Lib.compactUpTo]
 | m + 1=>by
  rw [Go.Lib.compactUpTo_succ,List.length_append]
  have:=bCl d m
  split <;> simp <;> omega
theorem aO4 (zs:List Int):(Go.Lib.compact zs).length <= zs.length:=by
 have:=bCl zs.toArray zs.toArray.size
 simpa [Go.Lib.compact] using this
theorem pU (N:Nat):aJ prog (iO N):=by
 rintro _ ⟨xs,⟨⟩⟩ r hF nbs hn
 have hF:(if xs.length <= 9223372036854775807 then some (Go.Lib.compact xs) else none)=some r:=hF
 split at hF
 rotate_left
 ·cases hF
 rename_i hlen
 cases hF
 have hn:nbs.map some=[some (Blk.row true 1 (kI (Go.Lib.compact xs)))]:=hn
 obtain rfl:nbs=[Blk.row true 1 (kI (Go.Lib.compact xs))]:=by
  cases nbs with
  | nil=>cases hn
  | cons b l =>
   cases l with
   | nil=>cases hn;rfl
   | cons _ _=>cases hn
 show ACall prog 66 [.sl (.B 0) 1 0 xs.length] [some (.row true 1 (kI xs))] (.sl (.O 0) 1 0 (Go.Lib.compact xs).length) [none] [Blk.row true 1 (kI (Go.Lib.compact xs))]
 generalize hys:Go.Lib.compact xs=ys
 have hle0:ys.length <= xs.length:=by rw [<- hys];exact aO4 xs
 intro w G m vs hS hm hr
 obtain ⟨v0,l0,hv0,⟨h1,loc,hloc,h2⟩,h3⟩:=hr
 subst h3
 have hlk:∀ (b:Blk) h bl,iP [some b] [] h=some bl->h=.B 0/\bl=b:=by
  intro b h bl e
  cases h with
  | B i=>cases i with
   | zero=>cases e;exact ⟨rfl,rfl⟩
   | succ i=>cases e
  | O i=>cases e
 have hnd:loc ≠ .dead:=by
  rintro rfl
  cases hS.dead _ hloc
 have hfn:aGs prog 66:=⟨_,func66,rfl,rfl⟩
 obtain rfl:vs=#[v0]:=by apply Array.ext';simpa using hv0
 let m' (l:Go.Eng.Loc):HM:=fun h=>if h=.O 0 then some l else if h=.B 0 then some .dead else m h
 have hmO:∀ l:Go.Eng.Loc,m' l (.O 0)=some l:=fun l=>if_pos rfl
 have hmB:∀ l:Go.Eng.Loc,m' l (.B 0)=some .dead:=fun l=>by show (if (Hd.B 0)=.O 0 then _ else _)=_;rw [if_neg (by simp),if_pos rfl]
 have hmo:∀ l h,h ≠ .O 0->h ≠ .B 0->m' l h=m h:=fun l h a b=>by show (if h=.O 0 then _ else _)=_;rw [if_neg a,if_neg b]
 have hother:∀ h l,h ≠ .B 0->m h=some l->l=.dead:=fun h l hb e=>by
  cases l with
  | dead=>rfl
  | none=>obtain ⟨_,_,e2⟩:=hS.nil _ e;exact absurd (hlk _ _ _ e2).1 hb
  | at_ b sz=>obtain ⟨_,e2,_⟩:=hS.blk _ _ _ e;exact absurd (hlk _ _ _ e2).1 hb
  | atx b sz fp=>obtain ⟨_,e2,_⟩:=hS.blkx _ _ _ _ e;exact absurd (hlk _ _ _ e2).1 hb
 have hsame:∀ l i,SameB (m (.B i)) (m' l (.B i)):=fun l i=>by
  by_cases e:i=0
  ·subst e;exact .inr (.inl ⟨by rw [hloc];exact fun e=>(by cases e),hmB l⟩)
  ·rw [hmo l _ (by simp) (by simpa using e)];exact SameB.refl _
 have hlast:∀ l i,iP [none] [Blk.row true 1 (kI ys)] (.O i)=none->m' l (.O i)=none:=fun l i e=>by
  cases i with
  | zero=>cases e
  | succ i=>rw [hmo l _ (by simp) (by simp)];exact hm _
 have hdead:∀ l:Go.Eng.Loc,l ≠ .dead->∀ h,m' l h=some .dead->iP [none] [Blk.row true 1 (kI ys)] h=none:=fun l hl h e=>by
  cases h with
  | B i=>cases i <;> rfl
  | O i=>cases i with
   | zero=>rw [hmO] at e;cases e;exact absurd rfl hl
   | succ i=>rfl
 refine .inl ⟨hfn,?_⟩
 rcases h2 hnd with ⟨a,rfl,h0⟩ | ⟨b,sz,cap,rfl,rfl,hc1,hc2⟩
 ·obtain rfl:xs=[]:=List.length_eq_zero_iff.1 h0
  have hy:ys=[]:=List.length_eq_zero_iff.1 (by simpa using hle0)
  subst hy
  refine (Any.slices_Compact_int_empty lays20 a 0 w).mono ?_
  rintro e w' ⟨rfl,rfl⟩
  refine ⟨_,rfl,G,m' .none,⟨?_,?_,?_,hS.gh,hdead _ (by simp),hS.gl,?_⟩,⟨rfl,_,hmO _,fun _=>.inl ⟨a,rfl,rfl⟩⟩,Fr.refl _ _ _ _,hsame _,?_,hlast _⟩
  ·intro h b sz e
   by_cases e1:h=.O 0
   ·subst e1;rw [hmO] at e;cases e
   by_cases e2:h=.B 0
   ·subst e2;rw [hmB] at e;cases e
   rw [hmo _ _ e1 e2] at e;cases hother _ _ e2 e
  ·intro h e
   by_cases e1:h=.O 0
   ·subst e1;exact ⟨true,1,rfl⟩
   by_cases e2:h=.B 0
   ·subst e2;rw [hmB] at e;cases e
   rw [hmo _ _ e1 e2] at e;cases hother _ _ e2 e
  ·intro h h' l l' b e e' hb hb'
   have key:∀ h l,m' .none h=some l->b ∈ l.blks->False:=fun h l e hb=>by
    by_cases e1:h=.O 0
    ·subst e1;rw [hmO] at e;cases e;cases hb
    by_cases e2:h=.B 0
    ·subst e2;rw [hmB] at e;cases e;cases hb
    rw [hmo _ _ e1 e2] at e
    rw [hother _ _ e2 e] at hb;cases hb
   exact (key _ _ e hb).elim
  ·intro h b sz fp e
   by_cases e1:h=.O 0
   ·subst e1;rw [hmO] at e;cases e
   by_cases e2:h=.B 0
   ·subst e2;rw [hmB] at e;cases e
   rw [hmo _ _ e1 e2] at e;cases hother _ _ e2 e
  ·intro h l b e hb
   by_cases e1:h=.O 0
   ·subst e1;rw [hmO] at e;cases e;cases hb
   by_cases e2:h=.B 0
   ·subst e2;rw [hmB] at e;cases e;cases hb
   rw [hmo _ _ e1 e2] at e
   rw [hother _ _ e2 e] at hb;cases hb
 ·obtain ⟨bl,hbl,hrep⟩:=hS.blk _ _ _ hloc
  obtain ⟨_,rfl⟩:=hlk _ _ _ hbl
  obtain ⟨cur,T,hb,hsz,hk,hrows,hG⟩:=hrep
  have ht:=wI hrows
  have hle:xs.length <= cur.size:=by
   have:=congrArg List.length ht
   simp at this
   omega
  have hb0:b < w.heap.size:=(Array.getElem?_eq_some_iff.1 hb).1
  refine (Any.slices_Compact_int lays20 b (0 * 1) cap xs w (by rw [Nat.zero_mul];exact holds_of_blockI hb ht) hlen hc1).mono ?_
  rintro e w' ⟨rfl,n,rfl⟩
  rw [hys]
  obtain ⟨zs,hzs⟩:∃ zs,zs=ys ++ List.replicate (xs.length - ys.length) 0:=⟨_,rfl⟩
  rw [<- hzs]
  have hzl:zs.length=xs.length:=by rw [hzs];simp;omega
  have hgr0:Sort.grow (putRow (Value.int .i64) (Sort.ahead w n) b 0 zs.toArray) #[]=putRow (Value.int .i64) (Sort.ahead w n) b 0 zs.toArray:=by
   have:∀ W:World,Sort.grow W #[]=W:=fun W=>by cases W;simp [Sort.grow]
   exact this _
  have hb':=heap_sortedI (n:=n) (os:=#[]) zs.toArray hb
  have hgr:=grownBy_sortedI (w:=w) (g:=b) (n:=n) (os:=#[]) zs.toArray
  rw [hgr0] at hb' hgr
  rw [Nat.zero_mul]
  have hdr:TD w (putRow (Value.int .i64) (Sort.ahead w n) b 0 zs.toArray):=⟨rfl,Nat.le_add_right _ _⟩
  revert hb' hgr hdr
  generalize putRow (Value.int .i64) (Sort.ahead w n) b 0 zs.toArray=w'
  intro hb' hgr hdr
  obtain ⟨g1,g2,g3,g4,g5⟩:=hgr
  refine ⟨_,rfl,G,m' (.at_ b sz),⟨?_,?_,?_,?_,hdead _ (by simp),hS.gl,?_⟩,⟨rfl,_,hmO _,fun _=>.inr ⟨b,sz,cap,rfl,by simp,by omega,hc2⟩⟩,⟨g1,hdr,g3,g4,fun b' hb1 ho=>?_,fun _ _ _ _=>rfl,Gh.le.refl G⟩,hsame _,?_,hlast _⟩
  ·intro h b2 sz2 e
   by_cases e1:h=.O 0
   ·subst e1;rw [hmO] at e;cases e
    refine ⟨_,rfl,_,T,hb',by rw [putCells,Array.size_mapIdx];exact hsz,by simp [kI] at hk |-;omega,uM fun j hj=>?_,hG⟩
    have:=congrArg (fun l=>l[j]?) (take_putCellsI cur zs (by omega))
    simp only [List.getElem?_take_of_lt (show j < zs.length by omega),Array.getElem?_toList] at this
    rw [Nat.zero_add,this,hzs,List.map_append,List.getElem?_append_left (by simpa using hj)]
    simp [hj]
   by_cases e2:h=.B 0
   ·subst e2;rw [hmB] at e;cases e
   rw [hmo _ _ e1 e2] at e;cases hother _ _ e2 e
  ·intro h e
   by_cases e1:h=.O 0
   ·subst e1;rw [hmO] at e;cases e
   by_cases e2:h=.B 0
   ·subst e2;rw [hmB] at e;cases e
   rw [hmo _ _ e1 e2] at e;cases hother _ _ e2 e
  ·intro h h' l l' b2 e e' hb2 hb2'
   have key:∀ h l,m' (.at_ b sz) h=some l->b2 ∈ l.blks->h=.O 0:=fun h l e hb=>by
    by_cases e1:h=.O 0
    ·exact e1
    by_cases e2:h=.B 0
    ·subst e2;rw [hmB] at e;cases e;cases hb
    rw [hmo _ _ e1 e2] at e
    rw [hother _ _ e2 e] at hb;cases hb
   rw [key _ _ e hb2,key _ _ e' hb2']
  ·intro b2 o v hg
   have hne:b ≠ b2:=by
    rintro rfl
    rw [hG o] at hg;cases hg
   have:=hS.gh _ _ _ hg
   have hlt:b2 < w.heap.size:=by
    simp only [World.cell?] at this
    cases hx:w.heap[b2]? with
    | none=>rw [hx] at this;simp at this
    | some _=>exact (Array.getElem?_eq_some_iff.1 hx).1
   have he:=g5 b2 hlt (fun e=>hne (Option.some.inj e).symm)
   simp only [World.cell?,he] at this |-
   exact this
  ·intro h b2 sz2 fp e
   by_cases e1:h=.O 0
   ·subst e1;rw [hmO] at e;cases e
   by_cases e2:h=.B 0
   ·subst e2;rw [hmB] at e;cases e
   rw [hmo _ _ e1 e2] at e;cases hother _ _ e2 e
  ·exact g5 b' hb1 fun e=>ho (by cases e;exact Own.at_ hloc)
  ·intro h l b2 e hb2
   by_cases e1:h=.O 0
   ·subst e1;rw [hmO] at e;cases e
    exact .inr ⟨.B 0,_,hloc,hb2⟩
   by_cases e2:h=.B 0
   ·subst e2;rw [hmB] at e;cases e;cases hb2
   rw [hmo _ _ e1 e2] at e
   rw [hother _ _ e2 e] at hb2;cases hb2
end Go.Proofs.Tryz

namespace Go.Proofs
open Go.Shelf
def Tryz.srtT_ren:Go.Shelf.Ren:=⟨fun | 6=>76 | 15=>79 | 14=>88 | 28=>97 | 29=>98 | 20=>107 | 21=>108 | 22=>109 | 23=>110 | 24=>111 | 25=>112 | 26=>113 | 27=>114 | 46=>123 | 47=>116 | 48=>117 | 49=>124 | 50=>125 | 57=>128 | n=>n,fun | 22=>99 | 24=>101 | 25=>123 | 3=>3 | 39=>126 | 0=>0 | 53=>142 | 55=>144 | 4=>4 | 46=>136 | 45=>135 | 50=>94 | 5=>5 | 9=>9 | 66=>154 | 70=>158 | 76=>164 | 77=>165 | n=>n,fun | n=>n⟩
theorem Tryz.srtT:Go.Proofs.SlLaysF0.n6 Tryz.prog Tryz.srtT_ren:={
 mixed:=by kernel_rfl
 f6:=⟨Tryz.f76.name,by decide,Tryz.func76.trans (congrArg some (by kernel_rfl))⟩
 f14:=⟨Tryz.f88.name,by decide,Tryz.func88.trans (congrArg some (by kernel_rfl))⟩
 f15:=Tryz.func79.trans (congrArg some (by kernel_rfl))
 f20:=⟨Tryz.f107.name,by decide,Tryz.func107.trans (congrArg some (by kernel_rfl))⟩
 f21:=⟨Tryz.f108.name,by decide,Tryz.func108.trans (congrArg some (by kernel_rfl))⟩
 f22:=⟨Tryz.f109.name,by decide,Tryz.func109.trans (congrArg some (by kernel_rfl))⟩
 f23:=⟨Tryz.f110.name,by decide,Tryz.func110.trans (congrArg some (by kernel_rfl))⟩
 f24:=⟨Tryz.f111.name,by decide,Tryz.func111.trans (congrArg some (by kernel_rfl))⟩
 f25:=⟨Tryz.f112.name,by decide,Tryz.func112.trans (congrArg some (by kernel_rfl))⟩
 f26:=⟨Tryz.f113.name,by decide,Tryz.func113.trans (congrArg some (by kernel_rfl))⟩
 f27:=⟨Tryz.f114.name,by decide,Tryz.func114.trans (congrArg some (by kernel_rfl))⟩
 f28:=Tryz.func97.trans (congrArg some (by kernel_rfl))
 f29:=Tryz.func98.trans (congrArg some (by kernel_rfl))
 f46:=⟨Tryz.f123.name,by decide,Tryz.func123.trans (congrArg some (by kernel_rfl))⟩
 f47:=Tryz.func116.trans (congrArg some (by kernel_rfl))
 f48:=Tryz.func117.trans (congrArg some (by kernel_rfl))
 f49:=⟨Tryz.f124.name,by decide,Tryz.func124.trans (congrArg some (by kernel_rfl))⟩
 f50:=⟨Tryz.f125.name,by decide,Tryz.func125.trans (congrArg some (by kernel_rfl))⟩
 f57:=⟨Tryz.f128.name,by decide,Tryz.func128.trans (congrArg some (by kernel_rfl))⟩
 t0:=Tryz.underlying0
 a0:=Tryz.isAgg0
 z0:=Tryz.sizeOf0
 v0:=Tryz.zeroValue0
 t3:=Tryz.underlying3
 a3:=Tryz.isAgg3
 z3:=Tryz.sizeOf3
 v3:=Tryz.zeroValue3
 t4:=Tryz.underlying4
 a4:=Tryz.isAgg4
 z4:=Tryz.sizeOf4
 v4:=Tryz.zeroValue4
 t5:=Tryz.underlying5
 a5:=Tryz.isAgg5
 z5:=Tryz.sizeOf5
 v5:=Tryz.zeroValue5
 t9:=Tryz.underlying9
 a9:=Tryz.isAgg9
 z9:=Tryz.sizeOf9
 v9:=Tryz.zeroValue9
 t22:=Tryz.underlying99
 a22:=Tryz.isAgg99
 z22:=Tryz.sizeOf99
 v22:=Tryz.zeroValue99
 t25:=Tryz.underlying123
 a25:=Tryz.isAgg123
 z25:=Tryz.sizeOf123
 v25:=Tryz.zeroValue123
 t39:=Tryz.underlying126
 a39:=Tryz.isAgg126
 z39:=Tryz.sizeOf126
 v39:=Tryz.zeroValue126
 t45:=Tryz.underlying135
 a45:=Tryz.isAgg135
 z45:=Tryz.sizeOf135
 v45:=Tryz.zeroValue135
 t46:=Tryz.underlying136
 a46:=Tryz.isAgg136
 z46:=Tryz.sizeOf136
 v46:=Tryz.zeroValue136
 t50:=Tryz.underlying94
 a50:=Tryz.isAgg94
 z50:=Tryz.sizeOf94
 v50:=Tryz.zeroValue94
 t53:=Tryz.underlying142
 a53:=Tryz.isAgg142
 z53:=Tryz.sizeOf142
 v53:=Tryz.zeroValue142
 t55:=Tryz.underlying144
 a55:=Tryz.isAgg144
 z55:=Tryz.sizeOf144
 v55:=Tryz.zeroValue144
 t66:=Tryz.underlying154
 a66:=Tryz.isAgg154
 z66:=Tryz.sizeOf154
 v66:=Tryz.zeroValue154
 t70:=Tryz.underlying158
 a70:=Tryz.isAgg158
 z70:=Tryz.sizeOf158
 v70:=Tryz.zeroValue158
 t76:=Tryz.underlying164
 a76:=Tryz.isAgg164
 z76:=Tryz.sizeOf164
 v76:=Tryz.zeroValue164
 t77:=Tryz.underlying165
 a77:=Tryz.isAgg165
 z77:=Tryz.sizeOf165
 v77:=Tryz.zeroValue165 }
def Tryz.srtR_ren:Go.Shelf.Ren:=⟨fun | 6=>51 | 15=>79 | 14=>78 | 28=>97 | 29=>98 | 20=>89 | 21=>90 | 22=>91 | 23=>92 | 24=>93 | 25=>94 | 26=>95 | 27=>96 | 46=>115 | 47=>116 | 48=>117 | 49=>118 | 50=>119 | 57=>126 | n=>n,fun | 22=>23 | 24=>75 | 25=>106 | 3=>3 | 39=>126 | 0=>0 | 53=>142 | 55=>144 | 4=>4 | 46=>136 | 45=>135 | 50=>94 | 5=>5 | 9=>9 | 66=>154 | 70=>158 | 76=>164 | 77=>165 | n=>n,fun | n=>n⟩
theorem Tryz.srtR:Go.Proofs.SlLaysF0.n6 Tryz.prog Tryz.srtR_ren:={
 mixed:=by kernel_rfl
 f6:=⟨Tryz.f51.name,by decide,Tryz.func51.trans (congrArg some (by kernel_rfl))⟩
 f14:=⟨Tryz.f78.name,by decide,Tryz.func78.trans (congrArg some (by kernel_rfl))⟩
 f15:=Tryz.func79.trans (congrArg some (by kernel_rfl))
 f20:=⟨Tryz.f89.name,by decide,Tryz.func89.trans (congrArg some (by kernel_rfl))⟩
 f21:=⟨Tryz.f90.name,by decide,Tryz.func90.trans (congrArg some (by kernel_rfl))⟩
 f22:=⟨Tryz.f91.name,by decide,Tryz.func91.trans (congrArg some (by kernel_rfl))⟩
 f23:=⟨Tryz.f92.name,by decide,Tryz.func92.trans (congrArg some (by kernel_rfl))⟩
 f24:=⟨Tryz.f93.name,by decide,Tryz.func93.trans (congrArg some (by kernel_rfl))⟩
 f25:=⟨Tryz.f94.name,by decide,Tryz.func94.trans (congrArg some (by kernel_rfl))⟩
 f26:=⟨Tryz.f95.name,by decide,Tryz.func95.trans (congrArg some (by kernel_rfl))⟩
 f27:=⟨Tryz.f96.name,by decide,Tryz.func96.trans (congrArg some (by kernel_rfl))⟩
 f28:=Tryz.func97.trans (congrArg some (by kernel_rfl))
 f29:=Tryz.func98.trans (congrArg some (by kernel_rfl))
 f46:=⟨Tryz.f115.name,by decide,Tryz.func115.trans (congrArg some (by kernel_rfl))⟩
 f47:=Tryz.func116.trans (congrArg some (by kernel_rfl))
 f48:=Tryz.func117.trans (congrArg some (by kernel_rfl))
 f49:=⟨Tryz.f118.name,by decide,Tryz.func118.trans (congrArg some (by kernel_rfl))⟩
 f50:=⟨Tryz.f119.name,by decide,Tryz.func119.trans (congrArg some (by kernel_rfl))⟩
 f57:=⟨Tryz.f126.name,by decide,Tryz.func126.trans (congrArg some (by kernel_rfl))⟩
 t0:=Tryz.underlying0
 a0:=Tryz.isAgg0
 z0:=Tryz.sizeOf0
 v0:=Tryz.zeroValue0
 t3:=Tryz.underlying3
 a3:=Tryz.isAgg3
 z3:=Tryz.sizeOf3
 v3:=Tryz.zeroValue3
 t4:=Tryz.underlying4
 a4:=Tryz.isAgg4
 z4:=Tryz.sizeOf4
 v4:=Tryz.zeroValue4
 t5:=Tryz.underlying5
 a5:=Tryz.isAgg5
 z5:=Tryz.sizeOf5
 v5:=Tryz.zeroValue5
 t9:=Tryz.underlying9
 a9:=Tryz.isAgg9
 z9:=Tryz.sizeOf9
 v9:=Tryz.zeroValue9
 t22:=Tryz.underlying23
 a22:=Tryz.isAgg23
 z22:=Tryz.sizeOf23
 v22:=Tryz.zeroValue23
 t25:=Tryz.underlying106
 a25:=Tryz.isAgg106
 z25:=Tryz.sizeOf106
 v25:=Tryz.zeroValue106
 t39:=Tryz.underlying126
 a39:=Tryz.isAgg126
 z39:=Tryz.sizeOf126
 v39:=Tryz.zeroValue126
 t45:=Tryz.underlying135
 a45:=Tryz.isAgg135
 z45:=Tryz.sizeOf135
 v45:=Tryz.zeroValue135
 t46:=Tryz.underlying136
 a46:=Tryz.isAgg136
 z46:=Tryz.sizeOf136
 v46:=Tryz.zeroValue136
 t50:=Tryz.underlying94
 a50:=Tryz.isAgg94
 z50:=Tryz.sizeOf94
 v50:=Tryz.zeroValue94
 t53:=Tryz.underlying142
 a53:=Tryz.isAgg142
 z53:=Tryz.sizeOf142
 v53:=Tryz.zeroValue142
 t55:=Tryz.underlying144
 a55:=Tryz.isAgg144
 z55:=Tryz.sizeOf144
 v55:=Tryz.zeroValue144
 t66:=Tryz.underlying154
 a66:=Tryz.isAgg154
 z66:=Tryz.sizeOf154
 v66:=Tryz.zeroValue154
 t70:=Tryz.underlying158
 a70:=Tryz.isAgg158
 z70:=Tryz.sizeOf158
 v70:=Tryz.zeroValue158
 t76:=Tryz.underlying164
 a76:=Tryz.isAgg164
 z76:=Tryz.sizeOf164
 v76:=Tryz.zeroValue164
 t77:=Tryz.underlying165
 a77:=Tryz.isAgg165
 z77:=Tryz.sizeOf165
 v77:=Tryz.zeroValue165 }
end Go.Proofs

set_option maxRecDepth 8000
set_option synthInstance.maxSize 100000000
set_option synthInstance.maxHeartbeats 4000000
namespace Go.Proofs.Tryz
open Go.Eng Go.RowKit
def dK (N:Nat) (p1:Int):Option Bool:=some ((p1 != p1))
abbrev nI (N:Nat):Sig:=⟨80,⟨[(0,dd (.i .i64))],[],[]⟩,[⟨[(0,dd .b)],[],[]⟩],dK N⟩
theorem sQ (N:Nat):aJ Tryz.prog (nI N):=bX N (T:=[]) trivial [] [] 0 Tryz.func80 rfl rfl (by kernel_rfl) (by rw [Tryz.ntmps80];decide) (fun a=>by kernel_rfl)
def bB (N:Nat) (p1:Int) (p2:Int):Option Int:=bd? (dK N p1) fun v3=>bd? (dK N p2) fun v4=>if? (v3) (if? (v4) (some (0)) (some ((-1)))) (if? (v4) (some (1)) (if? (decide (p1 < p2)) (some ((-1))) (if? (decide (p1 > p2)) (some (1)) (some (0)))))
abbrev gB (N:Nat):Sig:=⟨54,⟨[(0,dd (.i .i64)),(1,dd (.i .i64))],[],[]⟩,[⟨[(0,dd (.i .i64))],[],[]⟩],bB N⟩
theorem kV (N:Nat):aJ Tryz.prog (gB N):=bX N (T:=[nI N]) ⟨sQ N,trivial⟩ [] [] 0 Tryz.func54 rfl rfl (by kernel_rfl) (by rw [Tryz.ntmps54];decide) (fun a=>by kernel_rfl)
def lL (N:Nat) (p1:(Int × Int)) (p2:(Int × Int)):Option Int:=bd? (bB N p1.1 p2.1) fun v3=>some (v3)
abbrev aB2 (N:Nat):Sig:=⟨77,⟨[(0,dd (.w (.p (.i .i64) (.i .i64)))),(1,dd (.w (.p (.i .i64) (.i .i64))))],[],[]⟩,[⟨[(0,dd (.i .i64))],[],[]⟩],lL N⟩
theorem aB4 (N:Nat):aJ Tryz.prog (aB2 N):=bX N (T:=[gB N]) ⟨kV N,trivial⟩ [] [] 0 Tryz.func77 rfl rfl (by kernel_rfl) (by rw [Tryz.ntmps77];decide) (fun a=>by kernel_rfl)
def aFw  (rec2:Int->(List Int)->Int->Int->Option Int) (a3:Int) (a4:(List Int)) (a5:Int) (a6:Int):Option Int:=if? (decide (a6 < a5)) (aT (a4) (a6) fun x7=>if? ((x7 != a3)) (some (x7)) (ck .i64 ((a6 + 1)) (rec2 a3 a4 a5 (a6 + 1)))) (some (a3))
def aE1 :Nat->Int->(List Int)->Int->Int->Option Int:=bA [(.i .i64),(.sl (.i .i64)),(.i .i64),(.i .i64)] (aFw )
def kE (N:Nat) (p1:(List Int)):Option Int:=aE1 N 0 p1 ((p1.length:Nat):Int) 0
abbrev yY (N:Nat):Sig:=⟨53,⟨[(0,dd (.sl (.i .i64)))],[],[]⟩,[⟨[(0,dd (.i .i64))],[],[]⟩],kE N⟩
theorem aIs (N:Nat):aJ Tryz.prog (yY N):=bX N (T:=[]) trivial [] [⟨4,false,⟨[(3,dd (.i .i64)),(6,dd (.sl (.i .i64))),(7,dd (.i .i64)),(8,dd (.i .i64))],[],[]⟩⟩] 0 Tryz.func53 rfl rfl (by kernel_rfl) (by rw [Tryz.ntmps53];decide) (fun a=>by kernel_rfl)
def jK (N:Nat) (p1:(Int × (Int × (Int × Int)))) (p2:(Int × (Int × (Int × Int)))):Option Int:=bd? (bB N p1.1 p2.1) fun v3=>bd? (bB N p1.2.1 p2.2.1) fun v4=>bd? (bB N p1.2.2.1 p2.2.2.1) fun v5=>bd? (kE N [v3,v4,v5]) fun v6=>some (v6)
abbrev yV (N:Nat):Sig:=⟨52,⟨[(0,dd (.w (.p (.i .i64) (.p (.i .i64) (.p (.i .i64) (.i .i64)))))),(1,dd (.w (.p (.i .i64) (.p (.i .i64) (.p (.i .i64) (.i .i64))))))],[],[]⟩,[⟨[(0,dd (.i .i64))],[],[]⟩],jK N⟩
theorem aAk (N:Nat):aJ Tryz.prog (yV N):=bX N (T:=[gB N,yY N]) ⟨kV N,aIs N,trivial⟩ [] [] 0 Tryz.func52 rfl rfl (by kernel_rfl) (by rw [Tryz.ntmps52];decide) (fun a=>by kernel_rfl)
end Go.Proofs.Tryz

namespace Go.Proofs.Tryz
open Go.Eng Go.RowKit Go.Sort Go.Shelf

def uF (a b:Int):Int:=if a < b then -1 else if a > b then 1 else 0
theorem aKt (N:Nat) (a b:Int):bB N a b=some (uF a b):=by
 unfold bB dK uF
 have e:∀ x:Int,(x != x)=false:=fun x=>by simp
 rw [e,e]
 show if? (decide (a < b)) (some (-1)) (if? (decide (a > b)) (some 1) (some 0))=some (if a < b then -1 else if a > b then 1 else 0)
 by_cases h1:a < b
 ·rw [decide_eq_true h1,if_pos h1];rfl
 ·rw [decide_eq_false h1,if_neg h1]
  by_cases h2:a > b
  ·rw [decide_eq_true h2,if_pos h2];rfl
  ·rw [decide_eq_false h2,if_neg h2];rfl
def cfT (x y:Int × Int):Int:=uF x.1 y.1
def cfR (x y:Int × Int × Int × Int):Int:=if uF x.1 y.1 ≠ 0 then uF x.1 y.1 else if uF x.2.1 y.2.1 ≠ 0 then uF x.2.1 y.2.1 else uF x.2.2.1 y.2.2.1
theorem bDt (N:Nat) (x y:Int × Int):lL N x y=some (cfT x y):=by
 unfold lL
 rw [aKt];rfl
theorem bF7 (N:Nat) (a b c:Int):kE (N + 4) [a,b,c]=some (if a ≠ 0 then a else if b ≠ 0 then b else c):=by
 have h:kE (N + 4) [a,b,c]=if? (a != 0) (some a) (if? (b != 0) (some b) (if? (c != 0) (some c) (some 0))):=by kernel_rfl
 rw [h]
 have ne:∀ x:Int,(x != 0)=decide (x ≠ 0):=fun x=>by
  rw [Bool.eq_iff_iff,bne_iff_ne,decide_eq_true_eq]
 rw [ne,ne,ne]
 by_cases ha:a ≠ 0
 ·rw [decide_eq_true ha,if_pos ha];rfl
 ·rw [decide_eq_false ha,if_neg ha]
  by_cases hb:b ≠ 0
  ·rw [decide_eq_true hb,if_pos hb];rfl
  ·rw [decide_eq_false hb,if_neg hb]
   by_cases hc:c ≠ 0
   ·rw [decide_eq_true hc];rfl
   ·rw [decide_eq_false hc]
    have:c=0:=Classical.not_not.1 hc
    rw [this];rfl
theorem bDm (N:Nat) (x y:Int × Int × Int × Int):jK (N + 4) x y=some (cfR x y):=by
 unfold jK
 rw [aKt,aKt,aKt]
 show bd? (kE (N + 4) [uF x.1 y.1,uF x.2.1 y.2.1,uF x.2.2.1 y.2.2.1]) _=_
 rw [bF7];rfl
theorem aDj (a b:Int):(uF a b < 0)=(a < b):=by
 unfold uF
 split
 ·simp [*]
 ·split <;> simp [*]
theorem aXe (a b:Int):(uF a b=0)=(a=b):=by
 unfold uF
 split
 ·simp;omega
 ·split
  ·simp;omega
  ·simp;omega
theorem ltT (x y:Int × Int):ltOf cfT x y=decide (x.1 < y.1):=by
 unfold ltOf cfT
 simp only [aDj]
def zY (x y:Int × Int × Int × Int):Prop:=x.1 < y.1\/x.1=y.1/\(x.2.1 < y.2.1\/x.2.1=y.2.1/\x.2.2.1 < y.2.2.1)
instance (x y:Int × Int × Int × Int):Decidable (zY x y):=by unfold zY;infer_instance
theorem ltR (x y:Int × Int × Int × Int):ltOf cfR x y=decide (zY x y):=by
 unfold ltOf cfR
 rw [Bool.eq_iff_iff,decide_eq_true_eq,decide_eq_true_eq]
 unfold zY
 have z1:=aXe x.1 y.1
 have z2:=aXe x.2.1 y.2.1
 by_cases h1:uF x.1 y.1=0
 ·rw [if_neg (fun h=>h h1)]
  have e1:x.1=y.1:=by rw [<- z1];exact h1
  by_cases h2:uF x.2.1 y.2.1=0
  ·rw [if_neg (fun h=>h h2),aDj]
   have e2:x.2.1=y.2.1:=by rw [<- z2];exact h2
   omega
  ·rw [if_pos h2,aDj]
   have e2:x.2.1 ≠ y.2.1:=fun e=>h2 (by rw [z2];exact e)
   omega
 ·rw [if_pos h1,aDj]
  have e1:x.1 ≠ y.1:=fun e=>h1 (by rw [z1];exact e)
  omega
theorem aXb:SWO (ltOf cfT) where
 irrefl x:=by rw [ltT];simp
 trans x y z h1 h2:=by rw [ltT] at *;simp at *;omega
 ntrans x y z h1 h2:=by rw [ltT] at *;simp at *;omega
theorem aYf:SWO (ltOf cfR) where
 irrefl x:=by rw [ltR];unfold zY;simp
 trans x y z h1 h2:=by rw [ltR] at *;simp only [decide_eq_true_eq] at *;unfold zY at *;omega
 ntrans x y z h1 h2:=by rw [ltR] at *;simp only [decide_eq_false_iff_not] at *;unfold zY at *;omega
@[reducible] def bEx:Ty:=.p (.i .i64) (.i .i64)
@[reducible] def bFj:Ty:=.p (.i .i64) (.p (.i .i64) (.p (.i .i64) (.i .i64)))
def cZ (_N:Nat) (xs:List (Int × Int)):Option (List (Int × Int)):=if xs.length < 4611686018427387904 then some (eY (0,0) (ltOf cfT) xs) else none
abbrev fD (N:Nat):Sig:=⟨76,⟨[(0,.slw (.B 0) (.w (.p (.i .i64) (.i .i64))) 0),(1,.clo 77 [])],[some (.row true (.w (.p (.i .i64) (.i .i64))) [])],[]⟩,[⟨[],[some (.row true (.w (.p (.i .i64) (.i .i64))) [])],[]⟩],cZ N⟩
theorem mI (N:Nat):aJ Tryz.prog (fD N):=by
 rintro _ ⟨xs,⟨⟩⟩ r hF nbs hn
 have hF:(if xs.length < 4611686018427387904 then some (eY (0,0) (ltOf cfT) xs) else none)=some r:=hF
 split at hF
 rotate_left
 ·cases hF
 rename_i hlen
 cases hF
 have hn:nbs.map some=([]:List (Option Blk)):=hn
 obtain rfl:nbs=[]:=List.map_eq_nil_iff.1 hn
 refine aEv (t:=bEx) rfl (0,0) (by decide) ⟨_,func76,rfl,rfl⟩ aXb ⟨_,func77,rfl,rfl⟩ (fun x y=>aB4 N (x,(y,())) (cfT x y) (bDt N x y) [] rfl) (fun p cap w=>?_) ?_ xs hlen
 ·show Calls Tryz.prog (srtT_ren.f 6) _ _ _
  exact AnyF.slices_SortFunc_none srtT p cap _ w
 ·letI:Inhabited (Int × Int):=⟨(0,0)⟩
  intro blk cap xs w hcmp hH hb hl
  show Calls Tryz.prog (srtT_ren.f 6) _ _ _
  exact AnyQ.slices_SortFunc_eq srtT 2 isAgg101 sizeOf101 (jA (.w bEx)) (zO _) (aL4 (t:=bEx) rfl) cfT aXb 77 #[] blk 0 cap xs.toArray w (enters_of func77 (by kernel_rfl) rfl) hcmp hH hb hl
def cF (N:Nat) (xs:List (Int × (Int × (Int × Int)))):Option (List (Int × (Int × (Int × Int)))):=if xs.length < 4611686018427387904/\4 <= N then some (eY (0,0,0,0) (ltOf cfR) xs) else none
abbrev fZ (N:Nat):Sig:=⟨51,⟨[(0,.slw (.B 0) (.w (.p (.i .i64) (.p (.i .i64) (.p (.i .i64) (.i .i64))))) 0),(1,.clo 52 [])],[some (.row true (.w (.p (.i .i64) (.p (.i .i64) (.p (.i .i64) (.i .i64))))) [])],[]⟩,[⟨[],[some (.row true (.w (.p (.i .i64) (.p (.i .i64) (.p (.i .i64) (.i .i64))))) [])],[]⟩],cF N⟩
theorem nY (N:Nat):aJ Tryz.prog (fZ N):=by
 rintro _ ⟨xs,⟨⟩⟩ r hF nbs hn
 have hF:(if xs.length < 4611686018427387904/\4 <= N then some (eY (0,0,0,0) (ltOf cfR) xs) else none)=some r:=hF
 split at hF
 rotate_left
 ·cases hF
 rename_i hlen0
 obtain ⟨hlen,hN⟩:=hlen0
 cases hF
 have hn:nbs.map some=([]:List (Option Blk)):=hn
 obtain rfl:nbs=[]:=List.map_eq_nil_iff.1 hn
 obtain ⟨M,rfl⟩:∃ M,N=M + 4:=⟨N - 4,by omega⟩
 refine aEv (t:=bFj) rfl (0,0,0,0) (by decide) ⟨_,func51,rfl,rfl⟩ aYf ⟨_,func52,rfl,rfl⟩ (fun x y=>aAk (M + 4) (x,(y,())) (cfR x y) (bDm M x y) [] rfl) (fun p cap w=>?_) ?_ xs hlen
 ·show Calls Tryz.prog (srtR_ren.f 6) _ _ _
  exact AnyF.slices_SortFunc_none srtR p cap _ w
 ·letI:Inhabited (Int × (Int × (Int × Int))):=⟨(0,0,0,0)⟩
  intro blk cap xs w hcmp hH hb hl
  show Calls Tryz.prog (srtR_ren.f 6) _ _ _
  exact AnyQ.slices_SortFunc_eq srtR 4 isAgg75 sizeOf75 (jA (.w bFj)) (zO _) (aL4 (t:=bFj) rfl) cfR aYf 52 #[] blk 0 cap xs.toArray w (enters_of func52 (by kernel_rfl) rfl) hcmp hH hb hl
end Go.Proofs.Tryz


/- Texts of this claim. -/
import Derived.Test.YtloponjgedpffaaGreatE4
set_option linter.all false
set_option linter.unusedSimpArgs false
set_option linter.unusedVariables false
namespace Go.Eng
open Go.RowKit

def isAggD:TypeDesc->Bool
 | .struct _=>true
 | .array _ _=>true
 | _=>false

def fieldOf (P:Program) (T k:Nat):Option Field :=
 match P.underlying T with
 | some (.struct fs)=>fs[k]?
 | _=>none

def scalarD:TypeDesc->Bool
 | .bool=>true
 | .int _=>true
 | .string=>true
 | _=>false

def plainFields (P:Program):List Field->Nat->Option (List Nat)
 | [],_=>some []
 | f :: fs, j => if f.name ≠ "_" /\ f.offset = j then
   match P.underlying f.type,plainFields P fs (j + 1) with
   | some .bool,some r=>some (0 :: r)
   | some (.int _),some r=>some (1 :: r)
   | some .string,some r=>some (2 :: r)
   | _,_=>none
  else none

def opEq:BinOp->Bool
 | .eql=>true
 | .neq=>true
 | _=>false
def opNeq:BinOp->Bool
 | .neq=>true
 | _=>false

def arrT (P:Program) (T:TypeId):Bool:=match P.underlying T with
 | some (.array _ e)=>match P.underlying e with
  | some d=>scalarD d
  | _=>false
 | _=>false
def rowT (P:Program) (T:TypeId):Bool:=arrT P T

def Sh.len:Sh->Nat
 | .s _=>1
 | .a _ m=>m
def shLen:List Sh->Nat
 | []=>0
 | x :: r=>x.len + shLen r
def shFields (P:Program) (f:TypeId->Option (List Sh)):List Field->Nat->Option (List Sh)
 | [],_=>some []
 | x :: r, off => if x.name = "_" \/ x.offset ≠ off then none else match f x.type, P.info? x.type, shFields P f r (off + P.cellsOf x.type) with
  | some a,some _,some b=>if shLen a=P.cellsOf x.type then some (a ++ b) else none
  | _,_,_=>none
def shOf (P:Program):Nat->TypeId->Option (List Sh)
 | 0,_=>none
 | n + 1,T=>match P.underlying T with
  | some .bool=>some [.s 0]
  | some (.int _)=>some [.s 1]
  | some .string=>some [.s 2]
  | some (.array m e)=>match P.underlying e,P.info? e with
   | some (.int k),some i=>if i.size=1 then some [.a k m] else none
   | some _,some _=>(shOf P n e).bind fun l=>if shLen l=P.cellsOf e then some (List.replicate m l).flatten else none
   | _,_=>none
  | some (.struct fs)=>if P.stoodInHeld T=true then none else shFields P (shOf P n) fs.toList 0
  | _=>none
def keyFs (P:Program):List Field->Nat->Option (List IntKind)
 | [],_=>some []
 | x :: fs, off => if x.name = "_" \/ x.offset ≠ off then none else match P.underlying x.type, P.info? x.type, keyFs P fs (off + 1) with
  | some (.int k),some i,some l=>if i.size=1 then some (k :: l) else none
  | _,_,_=>none
def keyA (P:Program) (T:TypeId):Option (List IntKind):=match P.underlying T with
 | some (.array m e)=>match P.underlying e,P.info? e with
  | some (.int k),some i=>if i.size=1 then some (List.replicate m k) else none
  | _,_=>none
 | some (.struct fs)=>if P.stoodInHeld T=true then none else keyFs P fs.toList 0
 | _=>none
def KeyT (P:Program) (T:TypeId):KD->Prop
 | .i k=>P.underlying T=some (.int k)
 | .s=>P.underlying T=some .string
 | .a ks=>keyA P T=some ks
def keyD (P:Program) (T:TypeId):Option KD:=match P.underlying T with
 | some (.int k)=>some (.i k)
 | some .string=>some .s
 | _=>(keyA P T).map .a
theorem keyD_spec {P:Program} {T:TypeId} {kd:KD} (h:keyD P T=some kd):KeyT P T kd:=by
 unfold keyD at h
 split at h
 ·cases h;assumption
 ·cases h;assumption
 ·rw [Option.map_eq_some_iff] at h
  obtain ⟨ks,h,rfl⟩:=h
  exact h
def mapD (P:Program) (T:TypeId):Option (KD × TypeId):=match P.underlying T with
 | some (.map k e)=>(keyD P k).map fun kd=>(kd,e)
 | _=>none
theorem mapD_spec {P:Program} {T e:TypeId} {kd:KD} (h:mapD P T=some (kd,e)):∃ k,P.underlying T=some (.map k e)/\KeyT P k kd:=by
 unfold mapD at h
 split at h
 ·rename_i k e' hu
  rw [Option.map_eq_some_iff] at h
  obtain ⟨kd',h1,h2⟩:=h
  cases h2
  exact ⟨k,hu,keyD_spec h1⟩
 ·cases h
def elemK (P:Program) (T:TypeId):Nat:=match P.underlying T with
 | some (.slice e)=>P.cellsOf e
 | _=>0
def resolveOp (P:Program) (o:Oper):Option ROp :=
 match o.op with
 | .makeMap T none=>(mapD P T).map fun p=>.mkm p.1
 | .lookup T x y ok=>(mapD P T).bind fun p=>(P.info? p.2).bind fun i=>i.zero.map fun z=>.mget p.1 (constMV z) (elemK P p.2) ok x y
 | .mapUpdate T x y z=>if o.dst.isNone=true then (mapD P T).map fun p=>.mput p.1 x y z else none
 | .insert T x y z=>if o.dst.isNone=true then (mapD P T).map fun p=>.mput p.1 x y z else none
 | .range T x=>(mapD P T).map fun p=>.rng p.1 x
 | .next x false=>some (.nxt x)
 | .entry x=>some (.ent x)
 | .move x=>some (.mv x)
 | .assign x=>some (.mv x)
 | .pick c a b=>some (.pick c a b)
 | .alloc T=>(P.info? T).bind fun i=>i.zero.map fun z=>if rowT P T=true then .newR (z.cells.toList.map constAV) else .new (z.cells.toList.map constAV)
 | .box T x=>if rowT P T=true then some (.boxR x) else some (.box x)
 | .load T x=>match P.underlying T,P.info? T with
  | some d,some i=>some (.load (if isAggD d then some i.size else none) x)
  | _,_=>none
 | .store T a x=>if o.dst.isNone=true then (P.info? T).map fun i=>.store i.size a x else none
 | .binOp op T x y _=>match P.underlying T with
  | some (.struct fs)=>if !P.eqGuardType P.depth T && !P.stoodInHeld T && opEq op then (match plainFields P fs.toList 0 with | some kds=>some (.eqs (opNeq op) kds x y) | none=>(shOf P 100 T).map fun sh=>.eqg (opNeq op) sh x y) else none
  | some (.array m e)=>match P.underlying e,P.info? e with
   | some (.int k),some i=>if !P.eqGuardType P.depth T && opEq op && i.size == 1 then some (.eqa (opNeq op) k m x y) else none
   | _,_=>if !P.eqGuardType P.depth T && opEq op then (shOf P 100 T).map fun sh=>.eqg (opNeq op) sh x y else none
  | some .bool=>if opEq op then some (.beq (opNeq op) x y) else none
  | some (.interface _)=>match y with
   | .const .nilIface=>if opEq op then some (.isn (opNeq op) x) else none
   | _=>none
  | some (.int _)=>some (.bin op x y)
  | some .string=>some (.bin op x y)
  | some (.slice _)=>match y with
   | .const (.slice none 0 0)=>if opEq op then some (.isnil (opNeq op) x) else none
   | _=>none
  | some (.pointer _)=>match y with
   | .const (.pointer none)=>if opEq op then some (.isp (opNeq op) x) else none
   | _=>none
  | _=>none
 | .unOp op _ x=>some (.un op x)
 | .fieldAddr T x k=>(fieldOf P T k).bind fun f=>(P.info? f.type).bind fun i=>if i.size=0 then none else some (.faddr f.offset x)
 | .field T x k=>(fieldOf P T k).bind fun f=>match P.underlying f.type,P.info? f.type with
  | some d,some i=>some (.field f.offset (if isAggD d then some i.size else none) x)
  | _,_=>none
 | .indexAddr T x i=>match P.underlying T with
  | some (.slice e)=>(P.info? e).map fun inf=>.iaddr inf.size x i
  | some (.array m e)=>if 1 < m then (P.info? e).map fun inf=>.iaddrA m inf.size x i else none
  | _=>none
 | .index T x i=>match P.underlying T with
  | some .string=>some (.ixs x i)
  | some (.array m e)=>match P.underlying e,P.info? e with
   | some d,some inf=>some (.idxA m inf.size (if isAggD d then some inf.size else none) x i)
   | _,_=>none
  | _=>none
 | .slice T x lo hi mx=>match P.underlying T with
  | some .string=>if mx.isNone then some (.sls x lo hi) else none
  | some (.slice e)=>(P.info? e).map fun inf=>.sll inf.size x lo hi mx
  | some (.array m e)=>if mx.isNone then (P.info? e).bind fun inf=>if inf.size=1 then some (.slsA m x lo hi) else none else none
  | _=>none
 | .sliceToArrayPointer T x=>match P.underlying T with
  | some (.array m _)=>some (.arrP m x)
  | _=>none
 | .nilCheck x=>some (.nilc x)
 | .extract x i=>some (.ext x i)
 | .makeSlice T x y=>match P.underlying T with
  | some (.slice e)=>(P.info? e).bind fun i=>i.zero.bind fun z=>if z.cells.size == i.size then some (.mks i.size i.bytes (z.cells.toList.map zeroDV) x y) else none
  | _=>none
 | .convert src dst x=>match P.underlying src,P.underlying dst with
  | some (.int _),some (.int k)=>some (.cvI k x)
  | some (.slice e),some .string=>match P.underlying e with
   | some (.int .u8)=>some (.cvS x)
   | _=>none
  | some .string,some (.slice e)=>match P.underlying e with
   | some (.int .u8)=>some (.cvB x)
   | _=>none
  | _,_=>none
 | .makeInterface T x=>match P.underlying T with
  | some (.struct fs)=>if fs.size=0 then some (.mkI T x) else none
  | _=>none
 | .panic x=>some (.pan x)
 | .typeAssert x _ T ok=>match P.underlying T with
  | some (.struct fs)=>if ok=true/\fs.size=0 then some (.tas T x) else none
  | _=>none
 | .makeFunc (.func f) first caps=>if first.size=0 then some (.mkf f caps.toList) else none
 | .build T ps=>match P.underlying T,P.info? T with
  | some (.struct fs),some i=>if fs.toList.all (fun f=>(P.info? f.type).isSome) then i.zero.bind fun z=>(ps.toList.mapM fun p=>(fs[p.1]?).bind fun f=>(P.info? f.type).map fun fi=>(f.offset,fi.size,p.2)).map fun l=>.build (z.cells.toList.map constAV) l else none
  | some (.array m e),some i=>(P.info? e).bind fun fi=>i.zero.map fun z=>.build (z.cells.toList.map constAV) (ps.toList.map fun p=>(p.1 * fi.size,fi.size,p.2))
  | _,_=>none
 | .buildSlice T n ps=>match P.underlying T with
  | some (.slice e)=>(P.info? e).bind fun i=>if (ps.toList.map (·.1)) == List.range n && n * i.size <= 16777216 && 0 < i.size && i.zero.isSome then some (.bslice i.size (ps.toList.map (·.2))) else none
  | _=>none
 | .call c=>match c.callee with
  | .value f=>some (.call f c.args.toList)
  | .builtin .len=>match c.args.toList,c.argTypes.toList with
   | [x],[t]=>match P.underlying t with
    | some .string=>some (.len true x)
    | some (.slice _)=>some (.len false x)
    | some (.map _ _)=>some (.mlen x)
    | _=>none
   | _,_=>none
  | .builtin .delete=>match c.args.toList,c.argTypes.toList with
   | [x,y],[t,_]=>if o.dst.isNone=true then (mapD P t).map fun p=>.mdel p.1 x y else none
   | _,_=>none
  | .builtin .cap=>match c.args.toList,c.argTypes.toList with
   | [x],[t]=>match P.underlying t with
    | some (.slice _)=>some (.capK x)
    | _=>none
   | _,_=>none
  | .builtin .clear=>match c.args.toList,c.argTypes.toList with
   | [x],[t]=>match P.underlying t with
    | some (.slice e)=>(P.info? e).bind fun i=>i.zero.bind fun z=>if z.cells.size == i.size && (z.cells.toList.map zeroDV).all (fun d=>match d with | .C v=>v.oneCell' | _=>true) then some (.clr i.size (z.cells.toList.map zeroDV) x) else none
    | _=>none
   | _,_=>none
  | .builtin .copy=>match c.args.toList,c.argTypes.toList with
   | [x,y],[t,_]=>match P.underlying t with
    | some (.slice e)=>(P.info? e).map fun i=>.cpy i.size x y
    | _=>none
   | _,_=>none
  | .builtin .min=>match c.args.toList with
   | [x,y]=>some (.mm false x y)
   | _=>none
  | .builtin .max=>match c.args.toList with
   | [x,y]=>some (.mm true x y)
   | _=>none
  | .builtin .append=>match c.args.toList,c.argTypes.toList with
   | [x,y],[t,u]=>match P.underlying t,P.underlying u with
    | some (.slice e),some (.int _)=>(P.info? e).bind fun i=>i.zero.bind fun z=>if 0 < i.size && 0 < i.bytes && z.cells.size == i.size then some (.appZ i.size i.bytes (z.cells.toList.map zeroDV) x y) else none
    | some (.slice e),some d=>(P.info? e).bind fun i=>if (match d with | .slice e'=>(P.info? e').any (·.size == i.size) | .string=>i.size == 1 | _=>false) && 0 < i.size && 0 < i.bytes && i.zero.any (fun z=>z.cells.size == i.size) then some (.app i.size i.bytes x y) else none
    | _,_=>none
   | _,_=>none
  | _=>none
 | _=>none

def ROp.operands:ROp->List Operand
 | .mv x=>[x]
 | .pick c a b=>[c,a,b]
 | .new _=>[]
 | .box x=>[x]
 | .build _ ps=>ps.map (·.2.2)
 | .bslice _ ps=>ps
 | .bsF _ ps=>ps
 | .stop=>[]
 | .load _ x=>[x]
 | .store _ a x=>[a,x]
 | .bin _ x y=>[x,y]
 | .eqs _ _ x y=>[x,y]
 | .beq _ x y=>[x,y]
 | .un _ x=>[x]
 | .faddr _ x=>[x]
 | .field _ _ x=>[x]
 | .iaddr _ x i=>[x,i]
 | .sls x lo hi=>x :: (lo.toList ++ hi.toList)
 | .sll _ x lo hi mx=>x :: (lo.toList ++ hi.toList ++ mx.toList)
 | .ixs x i=>[x,i]
 | .ext x _=>[x]
 | .call f args=>f :: args
 | .len _ x=>[x]
 | .app _ _ x y=>[x,y]
 | .mm _ x y=>[x,y]
 | .mkf _ caps=>caps
 | .isnil _ x=>[x]
 | .isp _ x=>[x]
 | .cvI _ x=>[x]
 | .cvS x=>[x]
 | .appE _ _ x y=>[x,y]
 | .callE f args=>f :: args
 | .loadS _ x=>[x]
 | .faddrS _ x=>[x]
 | .nilcS x=>[x]
 | .lenS _ x=>[x]
 | .clr _ _ x=>[x]
 | .cpy _ x y=>[x,y]
 | .mks _ _ _ x y=>[x,y]
 | .capK x=>[x]
 | .appZ _ _ _ x y=>[x,y]
 | .iaddrA _ _ x i=>[x,i]
 | .idxA _ _ _ x i=>[x,i]
 | .slsA _ x lo hi=>x :: (lo.toList ++ hi.toList)
 | .arrP _ x=>[x]
 | .nilc x=>[x]
 | .eqa _ _ _ x y=>[x,y]
 | .eqg _ _ x y=>[x,y]
 | .newR _=>[]
 | .boxR x=>[x]
 | .loadD _ x=>[x]
 | .iaddrD _ x i=>[x,i]
 | .cvB x=>[x]
 | .mkI _ x=>[x]
 | .pan x=>[x]
 | .isn _ x=>[x]
 | .tas _ x=>[x]
 | .callP f args=>f :: args
 | .mkm _=>[]
 | .mkmW _=>[]
 | .mget _ _ _ _ x y=>[x,y]
 | .mtake _ _ _ _ x y=>[x,y]
 | .mput _ x y z=>[x,y,z]
 | .mdel _ x y=>[x,y]
 | .mlen x=>[x]
 | .rng _ x=>[x]
 | .nxt x=>[x]
 | .ent x=>[x]
 | .entT x=>[x]

def ROp.ht:ROp->Bool
 | .new _=>true
 | .box _=>true
 | .bslice _ _=>true
 | .load _ _=>true
 | .store _ _ _=>true
 | .faddr _ _=>true
 | .iaddr _ _ _=>true
 | .sll _ _ _ _ _=>true
 | .call _ _=>true
 | .len _ _=>true
 | .app _ _ _ _=>true
 | .isnil _ _=>true
 | .isp _ _=>true
 | .cvS _=>true
 | .appE _ _ _ _=>true
 | .callE _ _=>true
 | .clr _ _ _=>true
 | .cpy _ _ _=>true
 | .mks _ _ _ _ _=>true
 | .capK _=>true
 | .appZ _ _ _ _ _=>true
 | .iaddrA _ _ _ _=>true
 | .nilc _=>true
 | .newR _=>true
 | .boxR _=>true
 | .cvB _=>true
 | .pan _=>true
 | .callP _ _=>true
 | .mkm _=>true
 | .mkmW _=>true
 | .mget _ _ _ _ _ _=>true
 | .mtake _ _ _ _ _ _=>true
 | .mput _ _ _ _=>true
 | .mdel _ _ _=>true
 | .mlen _=>true
 | .rng _ _=>true
 | .nxt _=>true
 | .ent _=>true
 | .entT _=>true
 | _=>false

def Does (P:Program) (o:Oper) (ρ:Operand->Value) (w:World) (R:Value->World->Prop):Prop :=
 match (execOp ρ o).run P w with
 | .ok (.value v) w'=>R v w'
 | .ok .skip w'=>R undef w'
 | .ok (.enter f args) w'=>Calls P f args w' fun e w''=>∃ v,e=.returned v/\R v w''
 | _=>False

theorem Does.val {P:Program} {o:Oper} {ρ:Operand->Value} {w w':World} {R:Value->World->Prop} {v:Value} (h:(execOp ρ o).run P w=.ok (.value v) w') (hR:R v w'):Does P o ρ w R:=by
 unfold Does;rw [h];exact hR

theorem Does.mono {P:Program} {o:Oper} {ρ:Operand->Value} {w:World} {R R':Value->World->Prop} (h:Does P o ρ w R) (hr:∀ v w',R v w'->R' v w'):Does P o ρ w R':=by
 unfold Does at *
 split at h
 ·exact hr _ _ h
 ·exact hr _ _ h
 ·exact h.mono fun e w'' ⟨v,he,h⟩=>⟨v,he,hr _ _ h⟩
 ·exact h.elim

def shp:Option Blk->Option (Nat × Nat)
 | some (.row _ k es)=>some (k,es.length)
 | _=>none
theorem shp_row {b:Option Blk} {k n:Nat} (h:shp b=some (k,n)):∃ mt es,b=some (.row mt k es)/\es.length=n:=by
 unfold shp at h
 split at h
 ·cases h;exact ⟨_,_,rfl,rfl⟩
 ·cases h
def isLd:ROp->Bool
 | .loadS _ _=>true
 | .faddrS _ _=>true
 | .nilcS _=>true
 | .lenS _ _=>true
 | _=>false
def keepB (ld:Bool) (b b':Option Blk):Prop:=if ld=true then b'=b else shp b'=shp b
theorem keepB.refl (ld:Bool) (b:Option Blk):keepB ld b b:=by unfold keepB;split <;> rfl
theorem keepB.trans {ld:Bool} {b b' b'':Option Blk} (h:keepB ld b b') (h':keepB ld b' b''):keepB ld b b'':=by
 unfold keepB at *
 split
 ·rename_i e;rw [if_pos e] at h h';exact h'.trans h
 ·rename_i e;rw [if_neg e] at h h';exact h'.trans h
theorem keepB.symm {ld:Bool} {b b':Option Blk} (h:keepB ld b b'):keepB ld b' b:=by
 unfold keepB at *
 split
 ·rename_i e;rw [if_pos e] at h;exact h.symm
 ·rename_i e;rw [if_neg e] at h;exact h.symm
theorem keepB.weak {ld ld':Bool} {b b':Option Blk} (h:keepB ld b b') (hl:ld'=true->ld=true):keepB ld' b b':=by
 unfold keepB at *
 split
 ·rename_i e;rwa [if_pos (hl e)] at h
 ·split at h
  ·rw [h]
  ·exact h
def Need (ro:ROp) (ev:Operand->AV) (lk lk2:Look):Prop :=
 match ro.sArg with
 | some x=>∀ h,(ev x).hd?=some h->keepB (isLd ro) (lk h) (lk2 h)
 | none=>ro.ht=true->LkSame lk lk2
theorem Need.refl (ro:ROp) (ev:Operand->AV) (lk:Look):Need ro ev lk lk:=by
 unfold Need
 split
 ·exact fun _ _=>keepB.refl _ _
 ·exact fun _=>LkSame.refl _

def PS (P:Program) (o:Oper) (ro:ROp) (lk:Look) (n:Nat) (ev:Operand->AV) (K:AV->List Blk->List Hd->Prop):Prop :=
 ∃ a nbs fz,K a nbs fz/\(ro.ht=false->nbs=[]/\fz=[])/\(∀ h ∈ fz,(lk h).isSome=true)/\∀ (G:Gh) (m:HM) (w:World) (ρ:Operand->Value) (_:∀ v,ρ (.const v)=v) (lk2:Look),Need ro ev lk lk2->Sim G m lk2 w->(∀ x ∈ ro.operands,AV.Rep G m (ev x) (ρ x)) ->
  (∀ j,j < nbs.length->m (.O (n + j))=none)->Does P o ρ w (PPost G m lk2 n a nbs fz w)

section
variable {P:Program} {o:Oper} {lk:Look} {n:Nat} {ev:Operand->AV} {K:AV->List Blk->List Hd->Prop}

theorem ps_mv {x:Operand} (ho:o.op=.move x\/o.op=.assign x) (h:pstep P lk n ev (.mv x) K):PS P o (.mv x) lk n ev K:=by
 refine ⟨_,_,_,h,by first | exact fun _=>⟨rfl,rfl⟩ | (intro hh;cases hh),(by intro h hh;first | (cases hh;done) | exact (List.mem_filter.1 hh).2 | (split at hh <;> first | exact (List.mem_filter.1 hh).2 | cases hh)),fun G m w ρ _ lk2 _ hS hev _=>?_⟩
 have hx:=hev x (by simp [ROp.operands])
 refine Does.val (v:=ρ x) (w':=w) ?_ (PPost.val hS hx)
 rcases ho with ho | ho <;> simp [execOp,ho]

theorem ps_pick {c a b:Operand} (ho:o.op=.pick c a b) (h:pstep P lk n ev (.pick c a b) K):PS P o (.pick c a b) lk n ev K:=by
 obtain ⟨x,hx,hK⟩:=h
 refine ⟨_,_,_,hK,by first | exact fun _=>⟨rfl,rfl⟩ | (intro hh;cases hh),(by intro h hh;first | (cases hh;done) | exact (List.mem_filter.1 hh).2 | (split at hh <;> first | exact (List.mem_filter.1 hh).2 | cases hh)),fun G m w ρ _ lk2 _ hS hev _=>?_⟩
 have hc:=hev c (by simp [ROp.operands])
 have ha:=hev a (by simp [ROp.operands])
 have hb:=hev b (by simp [ROp.operands])
 rw [hx] at hc
 unfold AV.Rep DV.Rep at hc
 refine Does.val (v:=if x then ρ a else ρ b) (w':=w) ?_ (PPost.val hS ?_)
 ·simp [execOp,ho,hc,asBool]
 ·cases x <;> simpa

theorem run_zero {T:TypeId} {i:TypeInfo} {z:Value} (hi:P.info? T=some i) (hz:i.zero=some z) (w:World):(zeroValue T).run P w=.ok z w:=by
 simp [zeroValue,typeInfo,hi,hz]
theorem run_size {T:TypeId} {i:TypeInfo} (hi:P.info? T=some i) (w:World):(sizeOf T).run P w=.ok i.size w:=by
 simp [sizeOf,typeInfo,hi]

theorem box_rep {G:Gh} {m:HM} {cs:List AV} {vs:Array Value} {w:World} {lk:Look} (hS:Sim G m lk w) (T:TypeId) (h:AV.RepL G m cs vs.toList) :
  ∀ m',HM.le m m'->BlkRep G m' (.box cs) w.heap.size vs.size (w.alloc (.cells vs T)):=fun m' hm=>by
 unfold BlkRep
 exact ⟨vs,T,heap_alloc_new w _,rfl,AV.RepL.mono (Gh.le.refl G) hm _ _ h,fun o=>Gh_new hS (Nat.le_refl _) o⟩

theorem ptr_new {G:Gh} {m':HM} {n b sz:Nat} (h:m' (.O n)=some (.at_ b sz)):AV.Rep G m' (.ptr (.O n) 0) (.pointer (some ⟨b,0,none⟩)):=by
 unfold AV.Rep
 exact ⟨rfl,_,h,fun _=>⟨b,sz,rfl,rfl⟩⟩

theorem ones_rows {G:Gh} {f:Nat->Option Value}:∀ {ds:List DV} {o:Nat},DV.cells G f o ds->DV.rows G f 1 o (ds.map fun d=>[d])
 | [],o,_=>by simp [DV.rows]
 | d :: ds,o,h=>by
  unfold DV.cells at h
  simp only [List.map_cons]
  unfold DV.rows
  refine ⟨rfl,?_,ones_rows h.2⟩
  unfold DV.cells
  exact ⟨h.1,by unfold DV.cells;trivial⟩
theorem row_rep {G:Gh} {m:HM} {cs:List AV} {ds:List DV} {vs:Array Value} {w:World} {lk:Look} (hS:Sim G m lk w) (T:TypeId) (h:AV.RepL G m cs vs.toList) (hd:AV.data cs=some ds) :
  ∀ m',BlkRep G m' (.row true 1 (ds.map fun d=>[d])) w.heap.size vs.size (w.alloc (.cells vs T)):=fun m'=>by
 have hc:=AV.Rep_data h hd (fun o=>vs[o]?) 0 (fun j _=>by simp)
 unfold BlkRep
 refine ⟨vs,T,heap_alloc_new w _,rfl,?_,ones_rows hc,fun o=>Gh_new hS (Nat.le_refl _) o⟩
 have:=AV.RepL_length h
 have hl:ds.length=cs.length:=by
  clear hc h this
  induction cs generalizing ds with
  | nil=>unfold AV.data at hd;cases hd;rfl
  | cons y ys ih =>
   cases y <;> unfold AV.data at hd <;> first | cases hd | skip
   simp only [Option.map_eq_some_iff] at hd
   obtain ⟨ds',hds',rfl⟩:=hd
   simp [ih hds']
 simp at this |-
 omega
theorem eptr_new {G:Gh} {m':HM} {n b sz:Nat} (h:m' (.O n)=some (.at_ b sz)):AV.Rep G m' (.eptr (.O n) 1 0 0) (.pointer (some ⟨b,0,none⟩)):=by
 unfold AV.Rep
 exact ⟨rfl,_,h,fun _=>⟨b,sz,rfl,rfl⟩⟩

theorem ps_new {T:TypeId} {ro:ROp} (ho:o.op=.alloc T) (hr:resolveOp P o=some ro) (h:pstep P lk n ev ro K):PS P o ro lk n ev K:=by
 simp only [resolveOp,ho,Option.bind_eq_some_iff,Option.map_eq_some_iff] at hr
 obtain ⟨i,hi,z,hz,hr⟩:=hr
 split at hr
 ·subst hr
  obtain ⟨ds,hd,h⟩:=h
  refine ⟨_,_,_,h,(by intro hh;cases hh),(by intro h hh;cases hh),fun G m w ρ _ lk2 _ hS hev hn=>?_⟩
  refine Does.val (v:=.pointer (some ⟨w.heap.size,0,none⟩)) (w':=w.alloc (.cells z.cells T)) ?_ (PPost.new hS (by simpa using hn 0 (by simp)) _ _ _ (fun m' _=>row_rep hS T (AV.RepL_const _) hd m') fun m' _ hm'=>eptr_new hm')
  simp [execOp,ho,Instr.alloc,run_zero hi hz,newVar,newRow]
 ·subst hr
  refine ⟨_,_,_,h,(by intro hh;cases hh),(by intro h hh;cases hh),fun G m w ρ _ lk2 _ hS hev hn=>?_⟩
  refine Does.val (v:=.pointer (some ⟨w.heap.size,0,none⟩)) (w':=w.alloc (.cells z.cells T)) ?_ (PPost.new hS (by simpa using hn 0 (by simp)) _ _ _ (box_rep hS T (AV.RepL_const _)) fun m' _ hm'=>ptr_new hm')
  simp [execOp,ho,Instr.alloc,run_zero hi hz,newVar,newRow]

theorem ps_boxR {T:TypeId} {x:Operand} (ho:o.op=.box T x) (h:pstep P lk n ev (.boxR x) K):PS P o (.boxR x) lk n ev K:=by
 obtain ⟨cs,ds,hcs,hd,hK⟩:=h
 refine ⟨_,_,_,hK,(by intro hh;cases hh),(by intro h hh;cases hh),fun G m w ρ _ lk2 _ hS hev hn=>?_⟩
 have hx:=hev x (by simp [ROp.operands])
 refine Does.val (v:=.pointer (some ⟨w.heap.size,0,none⟩)) (w':=w.alloc (.cells (ρ x).cells T)) ?_ (PPost.new hS (by simpa using hn 0 (by simp)) _ _ _ (fun m' _=>row_rep hS T (AV.Rep_cells hcs hx).1 hd m') fun m' _ hm'=>eptr_new hm')
 simp [execOp,ho,Instr.box,newVar,newRow]

theorem ps_box {T:TypeId} {x:Operand} (ho:o.op=.box T x) (h:pstep P lk n ev (.box x) K):PS P o (.box x) lk n ev K:=by
 obtain ⟨cs,hcs,hK⟩:=h
 refine ⟨_,_,_,hK,by first | exact fun _=>⟨rfl,rfl⟩ | (intro hh;cases hh),(by intro h hh;first | (cases hh;done) | exact (List.mem_filter.1 hh).2 | (split at hh <;> first | exact (List.mem_filter.1 hh).2 | cases hh)),fun G m w ρ _ lk2 _ hS hev hn=>?_⟩
 have hx:=hev x (by simp [ROp.operands])
 refine Does.val (v:=.pointer (some ⟨w.heap.size,0,none⟩)) (w':=w.alloc (.cells (ρ x).cells T)) ?_ (PPost.new hS (by simpa using hn 0 (by simp)) _ _ _ (box_rep hS T (AV.Rep_cells hcs hx).1) fun m' _ hm'=>ptr_new hm')
 simp [execOp,ho,Instr.box,newVar,newRow]

theorem run_isAgg {T:TypeId} {d:TypeDesc} (hd:P.underlying T=some d) (w:World):(isAgg T).run P w=.ok (isAggD d) w:=by
 simp only [isAgg,Sem.run_bind,run_underlying hd,Result.andThen_ok]
 cases d <;> rfl

theorem run_loadVar_agg {T:TypeId} {d:TypeDesc} {i:TypeInfo} (hd:P.underlying T=some d) (hi:P.info? T=some i) (ha:isAggD d=true) {w:World} {b off:Nat} {vs:List Value}
  (hlen:vs.length=i.size) (hc:∀ j v,vs[j]?=some v->w.cell? ⟨b,off + j,none⟩=some v):(loadVar T ⟨b,off,none⟩).run P w=.ok (.agg vs.toArray) w:=by
 simp only [loadVar,Sem.run_bind,run_isAgg hd,Result.andThen_ok,ha,if_true,run_size hi]
 rw [<- hlen,run_loadCells_list w ⟨b,off,none⟩ vs (fun j v hj=>by rw [Addr.add_lit];exact hc j v hj)]
 simp

theorem run_loadVar_one {T:TypeId} {d:TypeDesc} (hd:P.underlying T=some d) (ha:isAggD d=false) {w:World} {b off:Nat} {v:Value}
  (hc:w.cell? ⟨b,off,none⟩=some v):(loadVar T ⟨b,off,none⟩).run P w=.ok v w:=by
 simp [loadVar,run_isAgg hd,ha,hc]

theorem cells_values {G:Gh} {f:Nat->Option Value}:∀ {ds:List DV} {o:Nat},DV.cells G f o ds->∃ vs:List Value,vs.length=ds.length/\∀ j,j < vs.length->f (o + j)=vs[j]?
 | [],_,_=>⟨[],rfl,fun j hj=>by simp at hj⟩
 | d :: ds,o,q=>by
  unfold DV.cells at q
  obtain ⟨⟨v,hv,_⟩,q2⟩:=q
  obtain ⟨vs,h1,h2⟩:=cells_values q2
  refine ⟨v :: vs,by simp [h1],fun j hj=>?_⟩
  match j with
  | 0=>simpa using hv
  | j + 1 =>
   have:=h2 j (by simpa using hj)
   simpa [show o + 1 + j=o + (j + 1) by omega] using this

theorem load_cells {G:Gh} {m:HM} {T:TypeId} {d:TypeDesc} {i:TypeInfo} (hd:P.underlying T=some d) (hi:P.info? T=some i) {w:World} {f:Nat->Option Value} {b off:Nat} {ds:List DV}
  (hc:DV.cells G f off ds) (hf:∀ o v,f o=some v->w.cell? ⟨b,o,none⟩=some v) {a:AV}
  (h:match (if isAggD d then some i.size else none) with
   | none=>∃ x,ds[0]?=some x/\a=.D x
   | some n=>n <= ds.length/\a=.agg ((ds.take n).map .D)) :
  ∃ v,(loadVar T ⟨b,off,none⟩).run P w=.ok v w/\AV.Rep G m a v:=by
 cases ha:isAggD d with
 | true =>
  rw [ha] at h
  obtain ⟨hle,rfl⟩:=h
  have hc':=DV.cells_take i.size hc
  obtain ⟨vs,h1,h2⟩:=cells_values hc'
  have hlen:vs.length=i.size:=by rw [h1];simp;omega
  refine ⟨.agg vs.toArray,run_loadVar_agg hd hi ha hlen (fun j v hj=>?_),?_⟩
  ·refine hf _ _ ?_
   rw [h2 j ((List.getElem?_eq_some_iff.1 hj).1)];exact hj
  ·unfold AV.Rep
   refine ⟨_,rfl,?_⟩
   exact AV.RepL_data hc' (fun j hj=>h2 j (by rw [h1];exact hj)) h1
 | false =>
  rw [ha] at h
  obtain ⟨x,hx,rfl⟩:=h
  obtain ⟨v,hv,hr⟩:=DV.cells_get hc hx
  exact ⟨v,run_loadVar_one hd ha (hf _ _ (by simpa using hv)),by unfold AV.Rep;exact hr⟩

theorem load_box {G:Gh} {m:HM} {T:TypeId} {d:TypeDesc} {i:TypeInfo} (hd:P.underlying T=some d) (hi:P.info? T=some i) {w:World} {b off:Nat} {cs:List AV} {vs:Array Value} {T':TypeId} {fr:Nat × Nat}
  (hb:w.heap[b]?=some (.cells vs T' fr)) (hc:AV.RepL G m cs vs.toList) {a:AV}
  (h:match (if isAggD d then some i.size else none) with
   | none=>∃ x,cs[off]?=some x/\a=x
   | some n=>off + n <= cs.length/\a=.agg ((cs.drop off).take n)) :
  ∃ v,(loadVar T ⟨b,off,none⟩).run P w=.ok v w/\AV.Rep G m a v:=by
 cases ha:isAggD d with
 | true =>
  rw [ha] at h
  obtain ⟨hle,rfl⟩:=h
  have hlen:=AV.RepL_length hc
  have h1:=AV.RepL_take i.size (AV.RepL_drop off hc)
  have h2:((vs.toList.drop off).take i.size).length=i.size:=by simp at hlen |-;omega
  refine ⟨.agg ((vs.toList.drop off).take i.size).toArray,run_loadVar_agg hd hi ha h2 (fun j v hj=>?_),by unfold AV.Rep;exact ⟨_,rfl,by simpa using h1⟩⟩
  rw [cell_heap hb]
  have hj2:=(List.getElem?_eq_some_iff.1 hj).1
  rw [h2] at hj2
  rw [List.getElem?_take_of_lt hj2,List.getElem?_drop,Array.getElem?_toList] at hj
  exact hj
 | false =>
  rw [ha] at h
  obtain ⟨x,hx,rfl⟩:=h
  obtain ⟨v,hv,hr⟩:=AV.RepL_get hc hx
  exact ⟨v,run_loadVar_one hd ha (by rw [cell_heap hb];simpa using hv),hr⟩

theorem Does.load {T:TypeId} {x:Operand} {ρ:Operand->Value} {w:World} {R:Value->World->Prop} {a:Addr} {v:Value} (ho:o.op=.load T x) (hx:ρ x=.pointer (some a)) (h:(loadVar T a).run P w=.ok v w) (hR:R v w) :
  Does P o ρ w R:=Does.val (v:=v) (w':=w) (by simp [execOp,ho,hx,Instr.loadAt,Instr.sureAddr,h]) hR

theorem row_cells {G:Gh} {m:HM} {mt:Bool} {k:Nat} {es:List (List DV)} {b sz:Nat} {w:World} (h:BlkRep G m (.row mt k es) b sz w) (hgh:∀ b o v,G b o=some v->w.cell? ⟨b,o,none⟩=some v) :
  ∃ f:Nat->Option Value,DV.rows G f k 0 es/\(∀ o v,f o=some v->w.cell? ⟨b,o,none⟩=some v)/\es.length * k <= sz:=by
 cases mt with
 | true =>
  unfold BlkRep at h
  obtain ⟨vs,T,h1,h2,h3,h4,h5⟩:=h
  exact ⟨fun o=>vs[o]?,h4,fun o v hv=>by rw [cell_heap h1];exact hv,h3⟩
 | false =>
  unfold BlkRep at h
  obtain ⟨vs,T,h1,h2,h3,h4,h5⟩:=h
  exact ⟨G b,h4,fun o v hv=>hgh b o v hv,h3⟩

theorem rows_flat {G:Gh} {f:Nat->Option Value} {k:Nat}:∀ {es:List (List DV)} {o:Nat},DV.rows G f k o es->DV.cells G f o es.flatten
 | [],o,_=>by simp [DV.cells]
 | e :: es,o,h=>by
  unfold DV.rows at h
  rw [List.flatten_cons]
  exact DV.cells_append h.2.1 (by rw [h.1];exact rows_flat h.2.2)
theorem rows_len {G:Gh} {f:Nat->Option Value} {k:Nat}:∀ {es:List (List DV)} {o:Nat},DV.rows G f k o es->es.flatten.length=es.length * k
 | [],o,_=>by simp
 | e :: es,o,h=>by
  unfold DV.rows at h
  rw [List.flatten_cons,List.length_append,h.1,rows_len h.2.2,List.length_cons,Nat.add_mul,Nat.one_mul,Nat.add_comm]
theorem rows_take_flat {G:Gh} {f:Nat->Option Value}:∀ {es:List (List DV)} {o:Nat} (n:Nat),DV.rows G f 1 o es->(es.take n).flatten=es.flatten.take n
 | [],o,n,_=>by simp
 | e :: es,o,0,_=>by simp
 | e :: es,o,n + 1,h=>by
  unfold DV.rows at h
  obtain ⟨h1,_,h3⟩:=h
  simp only [List.take_succ_cons,List.flatten_cons]
  rw [rows_take_flat n h3,List.take_append,h1,List.take_of_length_le (l:=e) (by omega),Nat.add_sub_cancel]

theorem ps_load {T:TypeId} {x:Operand} {ro:ROp} (ho:o.op=.load T x) (hr:resolveOp P o=some ro) (h:pstep P lk n ev ro K):PS P o ro lk n ev K:=by
 simp only [resolveOp,ho] at hr
 split at hr
 case h_2=>cases hr
 rename_i d i hd hi
 cases hr
 have h':aload lk (if isAggD d then some i.size else none) (fun a=>K a [] []) (ev x):=h
 clear h
 generalize hx:ev x=ax at h'
 unfold aload at h'
 have h:=h'
 clear h'
 split at h
 · -- a box of its own
  rename_i hdl off
  obtain ⟨cs,hl,h⟩:=h
  have hout:∃ a,K a [] []/\(match (if isAggD d then some i.size else none) with
   | none=>∃ x,cs[off]?=some x/\a=x
   | some n=>off + n <= cs.length/\a=.agg ((cs.drop off).take n)):=by
   split at h
   ·rename_i e;rw [e];obtain ⟨a,h1,h2⟩:=h;exact ⟨a,h2,a,h1,rfl⟩
   ·rename_i n' e;rw [e];exact ⟨_,h.2,h.1,rfl⟩
  obtain ⟨a,hK,hm⟩:=hout
  refine ⟨_,_,_,hK,by first | exact fun _=>⟨rfl,rfl⟩ | (intro hh;cases hh),(by intro h hh;first | (cases hh;done) | exact (List.mem_filter.1 hh).2 | (split at hh <;> first | exact (List.mem_filter.1 hh).2 | cases hh)),fun G m w ρ _ lk2 hls hS hev _=>?_⟩
  have hp:=hev x (by simp [ROp.operands])
  rw [hx] at hp
  unfold AV.Rep at hp
  obtain ⟨_,loc,hloc,hp⟩:=hp
  have hl2:=(hls rfl).box _ _ hl
  have hnd:loc ≠ .dead:=fun e=>by subst e;rw [hS.dead _ hloc] at hl2;cases hl2
  obtain ⟨b,sz,rfl,hp'⟩:=hp hnd
  obtain ⟨bl,hl3,hb⟩:=hS.blk _ _ _ hloc
  rw [hl2] at hl3
  cases hl3
  unfold BlkRep at hb
  obtain ⟨vs,T',h1,h2,h3,h4⟩:=hb
  obtain ⟨v,hv,hrep⟩:=load_box hd hi h1 h3 hm
  exact Does.load ho hp' hv (PPost.val hS hrep)
 · -- an element of a row of its own
  rename_i hdl k ix off
  obtain ⟨mt,es,e,hl,he,h⟩:=h
  by_cases hflat:isAggD d=true/\k=1
  ·obtain ⟨ha,rfl⟩:=hflat
   simp only [ha,if_true] at h
   obtain ⟨rfl,hle,hK⟩:=h
   simp only [ha,if_true]
   refine ⟨_,_,_,hK,(by intro hh;cases hh),(by intro h hh;cases hh),fun G m w ρ _ lk2 hls hS hev _=>?_⟩
   have hp:=hev x (by simp [ROp.operands])
   rw [hx] at hp
   unfold AV.Rep at hp
   obtain ⟨_,loc,hloc,hp⟩:=hp
   obtain ⟨mt',hl2⟩:=(hls rfl).row _ _ _ _ hl
   have hnd:loc ≠ .dead:=fun e=>by subst e;rw [hS.dead _ hloc] at hl2;cases hl2
   obtain ⟨b,sz,rfl,hp'⟩:=hp hnd
   obtain ⟨bl,hl3,hb⟩:=hS.blk _ _ _ hloc
   rw [hl2] at hl3
   cases hl3
   obtain ⟨f,hrow,hf,_⟩:=row_cells hb hS.gh
   have hrow2:=DV.rows_drop ix hrow
   rw [Nat.zero_add] at hrow2
   have hcell:=rows_flat hrow2
   have hfl:=rows_len hrow2
   rw [List.length_drop,Nat.mul_one] at hfl
   obtain ⟨v,hv,hrep⟩:=load_cells (m:=m) hd hi (b:=b) hcell hf (a:=.agg ((((es.drop ix).take i.size).flatten).map .D)) (by
    rw [ha]
    exact ⟨by rw [hfl];omega,by rw [rows_take_flat i.size hrow2]⟩)
   exact Does.load ho hp' hv (PPost.val hS hrep)
  have h:match (if isAggD d then some i.size else none) with
    | none=>∃ x,e[off]?=some x/\K (.D x) [] []
    | some n=>off + n <= e.length/\K (.agg (((e.drop off).take n).map .D)) [] []:=by
   cases ha:isAggD d with
   | false=>rw [ha] at h;exact h
   | true =>
    simp only [ha,if_true] at h |-
    rw [if_neg (fun q=>hflat ⟨ha,q⟩)] at h
    exact h
  have hout:∃ a,K a [] []/\(match (if isAggD d then some i.size else none) with
   | none=>∃ x,(e.drop off)[0]?=some x/\a=.D x
   | some n=>n <= (e.drop off).length/\a=.agg (((e.drop off).take n).map .D)):=by
   cases ha:isAggD d with
   | false=>rw [ha] at h;obtain ⟨x,h1,h2⟩:=h;exact ⟨_,h2,x,by simpa using h1,rfl⟩
   | true=>rw [ha] at h;exact ⟨_,h.2,by have:=h.1;simp;omega,rfl⟩
  obtain ⟨a,hK,hm⟩:=hout
  refine ⟨_,_,_,hK,by first | exact fun _=>⟨rfl,rfl⟩ | (intro hh;cases hh),(by intro h hh;first | (cases hh;done) | exact (List.mem_filter.1 hh).2 | (split at hh <;> first | exact (List.mem_filter.1 hh).2 | cases hh)),fun G m w ρ _ lk2 hls hS hev _=>?_⟩
  have hp:=hev x (by simp [ROp.operands])
  rw [hx] at hp
  unfold AV.Rep at hp
  obtain ⟨_,loc,hloc,hp⟩:=hp
  obtain ⟨mt',hl2⟩:=(hls rfl).row _ _ _ _ hl
  have hnd:loc ≠ .dead:=fun e=>by subst e;rw [hS.dead _ hloc] at hl2;cases hl2
  obtain ⟨b,sz,rfl,hp'⟩:=hp hnd
  obtain ⟨bl,hl3,hb⟩:=hS.blk _ _ _ hloc
  rw [hl2] at hl3
  cases hl3
  obtain ⟨f,hrow,hf,_⟩:=row_cells hb hS.gh
  have hcell:=DV.cells_drop off (DV.rows_get hrow he).2
  obtain ⟨v,hv,hrep⟩:=load_cells (m:=m) hd hi (b:=b) hcell hf hm
  rw [Nat.zero_add] at hv
  exact Does.load ho hp' hv (PPost.val hS hrep)
 · -- cells that stay as they are
  rename_i ds
  have hout:∃ a,K a [] []/\(match (if isAggD d then some i.size else none) with
   | none=>∃ x,ds[0]?=some x/\a=.D x
   | some n=>n <= ds.length/\a=.agg ((ds.take n).map .D)):=by
   split at h
   ·rename_i e';rw [e'];obtain ⟨a,h1,h2⟩:=h;exact ⟨_,h2,a,h1,rfl⟩
   ·rename_i n' e';rw [e'];exact ⟨_,h.2,h.1,rfl⟩
  obtain ⟨a,hK,hm⟩:=hout
  refine ⟨_,_,_,hK,by first | exact fun _=>⟨rfl,rfl⟩ | (intro hh;cases hh),(by intro h hh;first | (cases hh;done) | exact (List.mem_filter.1 hh).2 | (split at hh <;> first | exact (List.mem_filter.1 hh).2 | cases hh)),fun G m w ρ _ lk2 hls hS hev _=>?_⟩
  have hp:=hev x (by simp [ROp.operands])
  rw [hx] at hp
  unfold AV.Rep at hp
  obtain ⟨b,o',hp,hc⟩:=hp
  obtain ⟨v,hv,hrep⟩:=load_cells (m:=m) hd hi (b:=b) hc (fun o v hv=>hS.gh b o v hv) hm
  exact Does.load ho hp hv (PPost.val hS hrep)
 ·exact h.elim

theorem aload_own {lk:Look} {ag:Option Nat} {K:AV->Prop} {a:AV} {h:Hd} (hd:a.hd?=some h):aload lk ag K a=aload (fun y=>if y=h then lk y else none) ag K a:=by
 cases a <;> first | (cases hd;done) | skip
 case ptr h' off=>cases hd;unfold aload;simp only [if_true]
 case eptr h' k ix off=>cases hd;unfold aload;simp only [if_true]
 case sl h' k off len=>rfl

theorem ps_loadS {T:TypeId} {x:Operand} {ag:Option Nat} (ho:o.op=.load T x) (hr:resolveOp P o=some (.load ag x)) (h:pstep P lk n ev (.loadS ag x) K):PS P o (.loadS ag x) lk n ev K:=by
 obtain ⟨hs,h'⟩:=h
 obtain ⟨hdl,hhd⟩:=Option.isSome_iff_exists.1 hs
 have hp:pstep P (fun y=>if y=hdl then lk y else none) n ev (.load ag x) (fun a nbs fz=>nbs=[]/\fz=[]/\K a nbs fz):=by
  show aload _ ag (fun a=>([]:List Blk)=[]/\([]:List Hd)=[]/\K a [] []) (ev x)
  simp only [true_and]
  rw [<- aload_own hhd];exact h'
 obtain ⟨a,nbs,fz,⟨rfl,rfl,hK⟩,_,_,hD⟩:=ps_load ho hr hp
 refine ⟨a,[],[],hK,fun _=>⟨rfl,rfl⟩,(by intro h hh;cases hh),fun G m w ρ hρ lk2 hls hS hev hn=>hD G m w ρ hρ lk2 (fun _=>?_) hS hev hn⟩
 have he:lk2 hdl=lk hdl:=hls hdl hhd
 intro y b hb
 have hy:y=hdl:=by
  by_cases e:y=hdl
  ·exact e
  ·simp only [if_neg e] at hb;cases hb
 subst hy
 simp only [if_true] at hb
 exact ⟨b,he.trans hb,.inl rfl⟩

end
end Go.Eng


/- Texts of this claim. -/
import Derived.Test.YtkfcmelpadbdcaaGreatDoorE11m
import Derived.Laws.MakeOwn
set_option linter.all false
set_option linter.unusedSimpArgs false
set_option linter.unusedVariables false
namespace Go.Eng
open Go.RowKit

section
variable {P:Program} {o:Oper} {lk:Look} {n:Nat} {ev:Operand->AV} {K:AV->List Blk->List Hd->Prop}

theorem ps_cvI {src dst:TypeId} {k0 k:IntKind} {x:Operand} (ho:o.op=.convert src dst x) (hs:P.underlying src=some (.int k0)) (hd:P.underlying dst=some (.int k)) (h:pstep P lk n ev (.cvI k x) K):PS P o (.cvI k x) lk n ev K:=by
 obtain ⟨k',j,hx,hK⟩:=h
 refine ⟨_,_,_,hK,fun _=>⟨rfl,rfl⟩,(by intro h hh;cases hh),fun G m w ρ _ lk2 hls hS hev _=>?_⟩
 have hr:=rep_I (evr hev hx (by simp [ROp.operands]))
 refine Does.val (v:=.int k (k.wrap j)) (w':=w) ?_ (PPost.val hS (by unfold AV.Rep DV.Rep;rfl))
 simp [execOp,ho,hr,convert,run_underlying hs,run_underlying hd,Conv.intToInt]

theorem notnil_rep {G:Gh} {m:HM} {w:World} {lk2:Look} (hS:Sim G m lk2 w) (hls:LkSame lk lk2) {a:AV} {v:Value} {k:Nat} (hr:AV.Rep G m a v) (hl:AV.live lk a=true) (hk:a.len? false=some k) :
  ∃ p cap,v=.slice p k cap/\(p=none->k=0):=by
 unfold AV.len? at hk
 split at hk
 ·cases hk
  obtain ⟨p,cap,hv,hcap,hn,_⟩:=rep_L hr
  exact ⟨p,cap,hv,fun e=>by have:=hn e;omega⟩
 ·cases hk
  unfold AV.Rep at hr
  obtain ⟨p,cap,hv,hcap,hn,_⟩:=rep_L (m:=m) (by unfold AV.Rep;exact hr.1)
  exact ⟨p,cap,hv,fun e=>by have:=hn e;omega⟩
 ·cases hk
  obtain ⟨loc,_,hsl⟩:=sl_live hS hls hr hl
  rcases hsl with ⟨p,hv,h0⟩ | ⟨b,sz,cap,_,hv,_⟩
  ·exact ⟨p,0,by rw [hv,h0],fun _=>h0⟩
  ·exact ⟨_,cap,hv,fun e=>by cases e⟩
 ·cases hk
  obtain ⟨loc,_,hsl⟩:=slk_live hS hls hr hl
  obtain ⟨b,sz,_,hv,_⟩:=hsl
  exact ⟨_,_,hv,fun e=>by cases e⟩
 ·simp_all
 ·cases hk

theorem run_equalIn_slice {e:TypeId} (w:World) (d:Nat) (T:TypeId) (p:Option Addr) (k cap:Nat) (hd:P.underlying T=some (.slice e)):(Op.equalIn (d + 1) T (.slice p k cap) (.slice none 0 0)).run P w=.ok p.isNone w:=by
 unfold Op.equalIn
 simp only [Sem.run_bind,run_underlying hd,Result.andThen_ok]
 cases p <;> simp

theorem run_equalIn_ptr {e:TypeId} (w:World) (d:Nat) (T:TypeId) (p:Option Addr) (hd:P.underlying T=some (.pointer e)):(Op.equalIn (d + 1) T (.pointer p) (.pointer none)).run P w=.ok p.isNone w:=by
 unfold Op.equalIn
 simp only [Sem.run_bind,run_underlying hd,Result.andThen_ok]
 cases p <;> simp
theorem ps_isp {op:BinOp} {T yT e:TypeId} {x y:Operand} {ro:ROp} (ho:o.op=.binOp op T x y yT) (hd:P.underlying T=some (.pointer e)) (hr:resolveOp P o=some ro) (h:pstep P lk n ev ro K):PS P o ro lk n ev K:=by
 simp only [resolveOp,ho,hd] at hr
 split at hr
 case h_2=>cases hr
 have hops:op=.eql\/op=.neq:=by cases op <;> simp [opEq] at hr |-
 have hro:ro=.isp (opNeq op) x:=by rcases hops with rfl | rfl <;> simpa [opEq] using hr.symm
 subst hro
 obtain ⟨hl,h⟩:=h
 have hrun:∀ (ρ:Operand->Value) (_:∀ v,ρ (.const v)=v) (w:World) (p:Option Addr),ρ x=.pointer p->(execOp ρ o).run P w=.ok (.value (.bool (if opNeq op=true then !p.isNone else p.isNone))) w:=fun ρ hρ w p hv=>by
  have hg:∀ o',(eqGuard o' T x (.const (.pointer none)) (.pointer p) (.pointer none)).run P w=.ok () w:=fun o'=>by
   unfold eqGuard;split <;> simp
  have he:(Op.equal T (.pointer p) (.pointer none)).run P w=.ok p.isNone w:=by
   exact run_equalIn_ptr w 9999 T p hd
  have hb:∀ o',o'=.eql\/o'=.neq->(binOp o' T (.pointer p) (.pointer none)).run P w=.ok (.bool (if opNeq o'=true then !p.isNone else p.isNone)) w:=fun o' h'=>by
   rcases h' with rfl | rfl <;> simp [binOp,he,opNeq]
  rcases hops with rfl | rfl <;> simp [execOp,ho,hv,hρ,hg,hb _ (.inl rfl),hb _ (.inr rfl),opNeq]
 generalize hx:ev x=ax at h hl
 split at h
 ·refine ⟨_,_,_,h,(by intro hh;cases hh),(by intro h hh;cases hh),fun G m w ρ hρ lk2 hls hS hev _=>?_⟩
  have hr:=evr hev hx (by simp [ROp.operands])
  obtain ⟨b,sz,hloc,hp⟩:=ptr_live hS (hls rfl) hr hl
  refine Does.val (hrun ρ hρ w _ hp) (PPost.val hS ?_)
  unfold AV.Rep DV.Rep
  cases opNeq op <;> rfl
 ·refine ⟨_,_,_,h,(by intro hh;cases hh),(by intro h hh;cases hh),fun G m w ρ hρ lk2 hls hS hev _=>?_⟩
  have hr:=evr hev hx (by simp [ROp.operands])
  unfold AV.Rep DV.Rep at hr
  refine Does.val (hrun ρ hρ w _ hr) (PPost.val hS ?_)
  unfold AV.Rep DV.Rep
  cases opNeq op <;> rfl
 ·exact h.elim

theorem ps_isnil {op:BinOp} {T yT e:TypeId} {x y:Operand} {ro:ROp} (ho:o.op=.binOp op T x y yT) (hd:P.underlying T=some (.slice e)) (hr:resolveOp P o=some ro) (h:pstep P lk n ev ro K):PS P o ro lk n ev K:=by
 simp only [resolveOp,ho,hd] at hr
 split at hr
 case h_2=>cases hr
 have hops:op=.eql\/op=.neq:=by cases op <;> simp [opEq] at hr |-
 have hro:ro=.isnil (opNeq op) x:=by rcases hops with rfl | rfl <;> simpa [opEq] using hr.symm
 subst hro
 obtain ⟨hl,k,hk,h⟩:=h
 have hrun:∀ (ρ:Operand->Value) (_:∀ v,ρ (.const v)=v) (w:World) (p:Option Addr) (cap:Nat),ρ x=.slice p k cap->(execOp ρ o).run P w=.ok (.value (.bool (if opNeq op=true then !p.isNone else p.isNone))) w:=fun ρ hρ w p cap hv=>by
  have hg:∀ o',(eqGuard o' T x (.const (.slice none 0 0)) (.slice p k cap) (.slice none 0 0)).run P w=.ok () w:=fun o'=>by
   unfold eqGuard;split <;> simp
  have he:(Op.equal T (.slice p k cap) (.slice none 0 0)).run P w=.ok p.isNone w:=by
   exact run_equalIn_slice w 9999 T p k cap hd
  have hb:∀ o',o'=.eql\/o'=.neq->(binOp o' T (.slice p k cap) (.slice none 0 0)).run P w=.ok (.bool (if opNeq o'=true then !p.isNone else p.isNone)) w:=fun o' h'=>by
   rcases h' with rfl | rfl <;> simp [binOp,he,opNeq]
  rcases hops with rfl | rfl <;> simp [execOp,ho,hv,hρ,hg,hb _ (.inl rfl),hb _ (.inr rfl),opNeq]
 split at h
 ·refine ⟨_,_,_,h,(by intro hh;cases hh),(by intro h hh;cases hh),fun G m w ρ hρ lk2 hls hS hev _=>?_⟩
  obtain ⟨p,cap,hv,_⟩:=notnil_rep hS (hls rfl) (hev x (by simp [ROp.operands])) hl hk
  exact Does.val (hrun ρ hρ w p cap hv) (PPost.val hS (by unfold AV.Rep;exact ⟨_,rfl⟩))
 ·rename_i hk0
  refine ⟨_,_,_,h,(by intro hh;cases hh),(by intro h hh;cases hh),fun G m w ρ hρ lk2 hls hS hev _=>?_⟩
  obtain ⟨p,cap,hv,hn⟩:=notnil_rep hS (hls rfl) (hev x (by simp [ROp.operands])) hl hk
  refine Does.val (hrun ρ hρ w p cap hv) (PPost.val hS ?_)
  have:p.isNone=false:=by cases p with
   | none=>exact absurd (hn rfl) hk0
   | some a=>rfl
  unfold AV.Rep DV.Rep
  rw [this];cases opNeq op <;> rfl

theorem bytes_rows {G:Gh} {f:Nat->Option Value}:∀ {ys:List (List DV)} {t:List UInt8} {vs:List Value} {o:Nat},bytesOf ys=some t->DV.rows G f 1 o ys->vs.length=ys.length->(∀ i,i < vs.length->f (o + i)=vs[i]?) ->
  ∃ ns:List Int,vs=ns.map (Value.int .u8)/\ns.map (fun n=>UInt8.ofNat n.toNat)=t
 | [],t,vs,o,hb,_,hl,_=>by
  simp only [bytesOf,Option.some.injEq] at hb
  exact ⟨[],by simpa using hl,hb⟩
 | y :: ys,t,[],o,hb,_,hl,_=>by simp at hl
 | y :: ys,t,v :: vs,o,hb,hrow,hl,hf=>by
  unfold bytesOf at hb
  split at hb
  ·rename_i heq;cases heq
  ·rename_i n r heq
   cases heq
   rw [Option.map_eq_some_iff] at hb
   obtain ⟨t',hb,rfl⟩:=hb
   unfold DV.rows at hrow
   obtain ⟨_,hc,hrow⟩:=hrow
   unfold DV.cells at hc
   obtain ⟨⟨u,h1,h2⟩,_⟩:=hc
   unfold DV.Rep at h2
   have h3:=hf 0 (by simp)
   rw [Nat.add_zero,h1] at h3
   simp only [List.getElem?_cons_zero,Option.some.injEq] at h3
   obtain ⟨ns,k1,k2⟩:=bytes_rows hb hrow (by simpa using hl) (fun i hi=>by
    have:=hf (i + 1) (by simpa using hi)
    rw [show o + 1 + i=o + (i + 1) by omega,this];simp)
   exact ⟨n :: ns,by rw [List.map_cons,<- k1,<- h3,h2],by rw [List.map_cons,k2]⟩
  ·cases hb

theorem bytes_uni:∀ {ys:List (List DV)} {t:List UInt8},bytesOf ys=some t->Uni 1 ys
 | [],_,_=>fun e he=>by cases he
 | y :: ys,t,h=>by
  unfold bytesOf at h
  split at h
  ·rename_i heq;cases heq
  ·rename_i n r heq
   cases heq
   rw [Option.map_eq_some_iff] at h
   obtain ⟨t',h,_⟩:=h
   intro e he
   rcases List.mem_cons.1 he with rfl | he
   ·rfl
   ·exact bytes_uni h e he
  ·cases h

theorem ps_cvS {src dst e:TypeId} {x:Operand} (ho:o.op=.convert src dst x) (hs:P.underlying src=some (.slice e)) (he:P.underlying e=some (.int .u8)) (hd:P.underlying dst=some .string) (h:pstep P lk n ev (.cvS x) K):PS P o (.cvS x) lk n ev K:=by
 obtain ⟨ys,t,hx,ht,hns,hK⟩:=h
 refine ⟨_,_,_,hK,(by intro hh;cases hh),(by intro h hh;cases hh),fun G m w ρ _ lk2 hls hS hev _=>?_⟩
 have hr:=hev x (by simp [ROp.operands])
 obtain ⟨c1,vs,c2,c3,c4⟩:=content_run (P:=P) hS (hls rfl).row hr hx (bytes_uni ht)
 have hsl:∃ p len cap,ρ x=.slice p len cap:=by
  unfold AV.content at hx
  split at hx
  ·rename_i heq;rw [heq] at hr;obtain ⟨a,cap,hv,_⟩:=rep_L hr;exact ⟨a,_,cap,hv⟩
  ·rename_i heq;rw [heq] at hr;unfold AV.Rep at hr;obtain ⟨_,a,hv⟩:=hr;exact ⟨a,_,_,hv⟩
  ·rename_i hd' k off len heq
   rw [heq] at hr
   split at hx
   case h_2=>cases hx
   rename_i mt k2 es hl
   obtain ⟨mt',hl'⟩:=(hls rfl).row _ _ _ _ hl
   unfold AV.Rep at hr
   obtain ⟨_,loc,hloc,hsl⟩:=hr
   have hnd:loc ≠ .dead:=fun e=>by subst e;rw [hS.dead _ hloc] at hl';cases hl'
   rcases hsl hnd with ⟨p,hv,rfl⟩ | ⟨b,sz,cap,rfl,hv,hcap,hsz⟩
   ·exact ⟨_,_,_,hv⟩
   ·exact ⟨_,_,_,hv⟩
  ·rename_i hd' k off len cap0 heq
   rw [heq] at hr
   split at hx
   case h_2=>cases hx
   rename_i mt k2 es hl
   obtain ⟨mt',hl'⟩:=(hls rfl).row _ _ _ _ hl
   unfold AV.Rep at hr
   obtain ⟨_,loc,hloc,hsl⟩:=hr
   have hnd:loc ≠ .dead:=fun e=>by subst e;rw [hS.dead _ hloc] at hl';cases hl'
   obtain ⟨b,sz,rfl,hv,hcap,hsz⟩:=hsl hnd
   exact ⟨_,_,_,hv⟩
  ·rename_i heq;rw [heq] at hns;cases hns
  ·cases hx
 obtain ⟨p,len,cap,hv⟩:=hsl
 have hlen:len=ys.length:=by
  have:=c1 w
  rw [hv] at this
  simpa [Builtin.lenOf] using this
 obtain ⟨ns,k1,k2⟩:=bytes_rows (G:=G) (f:=fun i=>vs[i]?) (o:=0) ht (c4 G _ 0 (Gh.le.refl G) (fun i _=>by simp)) (by simpa using c2) (fun i _=>by simp)
 refine Does.val (v:=.string ⟨t.toArray⟩) (w':=w) ?_ (PPost.val hS (by unfold AV.Rep DV.Rep;rfl))
 have hconv:(convert src dst (.slice p len cap)).run P w=.ok (.string ⟨t.toArray⟩) w:=by
  cases p with
  | none =>
   rw [run_convert_bytes_nil w src e hs he len cap dst hd]
   have:vs=[]:=by
    have:=c3 w rfl
    rw [hv] at this
    simp [Builtin.firstCells] at this
    simpa using this.symm
   subst this
   have hns':ns=[]:=by simpa using k1.symm
   subst hns'
   rw [<- k2];rfl
  | some a =>
   rw [run_convert_bytes_string w src dst e _ len cap hs he hd,run_bytesToString w a len cap ns ?_,foldl_push_bytes,k2]
   ·simp [ByteArray.empty,ByteArray.emptyWithCapacity]
    rfl
   ·have:=c3 w rfl
    rw [hv] at this
    simpa [Builtin.firstCells,hlen,k1] using this
 simp [execOp,ho,hv,hconv]
end

theorem zeroDV_rep (G:Gh) (v:Value):DV.Rep G (zeroDV v) v:=by
 unfold zeroDV
 split
 ·simp [DV.Rep]
 ·simp [DV.Rep]
 ·simp [DV.Rep]
 ·simp only [DV.Rep];exact ⟨none,0,rfl,Nat.le_refl _,fun _=>rfl,fun h=>absurd rfl h⟩
 ·simp [DV.Rep]

theorem zero_cells (G:Gh) (f:Nat->Option Value):∀ (zs:List Value) (o:Nat),(∀ j,j < zs.length->f (o + j)=zs[j]?)->DV.cells G f o (zs.map zeroDV)
 | [],_,_=>by simp [DV.cells]
 | z :: zs,o,h=>by
  simp only [List.map_cons]
  unfold DV.cells
  refine ⟨⟨z,by simpa using h 0 (by simp),zeroDV_rep G z⟩,zero_cells G f zs (o + 1) (fun j hj=>?_)⟩
  have:=h (j + 1) (by simp;omega)
  simpa [show o + 1 + j=o + (j + 1) by omega] using this
theorem zero_rows (G:Gh) (f:Nat->Option Value) (zs:List Value):∀ (n o:Nat),(∀ j,j < n * zs.length->f (o + j)=zs[j % zs.length]?)->DV.rows G f zs.length o (List.replicate n (zs.map zeroDV))
 | 0,_,_=>by simp [DV.rows]
 | n + 1,o,h=>by
  have hl:(n + 1) * zs.length=zs.length + n * zs.length:=by rw [Nat.add_mul];omega
  simp only [List.replicate_succ]
  unfold DV.rows
  refine ⟨by simp,zero_cells G f zs o (fun j hj=>?_),zero_rows G f zs n (o + zs.length) (fun j hj=>?_)⟩
  ·rw [h j (by omega),Nat.mod_eq_of_lt hj]
  ·rw [Nat.add_assoc,h (zs.length + j) (by omega),Nat.add_mod_left]

theorem ps_mks {P:Program} {o:Oper} {lk:Look} {n:Nat} {ev:Operand->AV} {K:AV->List Blk->List Hd->Prop} {T e:TypeId} {i:TypeInfo} {z:Value} {x y:Operand} (ho:o.op=.makeSlice T x y) (ht:P.underlying T=some (.slice e)) (hi:P.info? e=some i) (hz:i.zero=some z) (hz':z.cells.size=i.size)
  (h:pstep P lk n ev (.mks i.size i.bytes (z.cells.toList.map zeroDV) x y) K):PS P o (.mks i.size i.bytes (z.cells.toList.map zeroDV) x y) lk n ev K:=by
 obtain ⟨k1,k2,l,c,hx,hy,h0,hlc,h63,hb,hK⟩:=h
 refine ⟨_,_,_,hK,(by intro hh;cases hh),(by intro h hh;cases hh),fun G m w ρ _ lk2 _ hS hev hn=>?_⟩
 have hvx:=rep_I (hx ▸ hev x (by simp [ROp.operands]))
 have hvy:=rep_I (hy ▸ hev y (by simp [ROp.operands]))
 have hlc':l.toNat <= c.toNat:=by omega
 have hsz:(madeCells z.cells (c.toNat * i.size)).size=c.toNat * i.size:=size_madeCells _ _
 refine Does.val (v:=.slice (some ⟨w.heap.size,0,none⟩) l.toNat c.toNat) (w':=w.alloc (.cells (madeCells z.cells (c.toNat * i.size)) e)) ?_ (PPost.new hS (by simpa using hn 0 (by simp)) _ _ _ (fun m' hm'=>?_) fun m' _ hm'=>?_)
 ·have:=run_make (P:=P) w T e i z ht hi hz k1 k2 l c h0 hlc hb h63
  simp only [execOp,ho,hvx,hvy,Sem.run_bind,this]
  simp
 ·unfold BlkRep
  have hm:l.toNat * i.size <= c.toNat * i.size:=Nat.mul_le_mul_right _ hlc'
  refine ⟨_,e,heap_alloc_new _ _,rfl,by rw [hsz,List.length_replicate];exact hm,?_,fun o=>Gh_new hS (Nat.le_refl _) o⟩
  have hzl:z.cells.toList.length=i.size:=by simpa using hz'
  have:=zero_rows G (fun o=>(madeCells z.cells (c.toNat * i.size))[o]?) z.cells.toList l.toNat 0 (fun j hj=>?_)
  ·rwa [hzl] at this
  ·rw [hzl] at hj
   have hpos:0 < i.size:=Nat.pos_of_ne_zero (fun e=>by rw [e] at hj;simp at hj)
   have hmm:j % z.cells.size < z.cells.size:=Nat.mod_lt _ (by rw [hz'];exact hpos)
   rw [Nat.zero_add]
   simp only [madeCells,Array.getElem?_map,Array.length_toList,Array.getElem?_toList]
   rw [Array.getElem?_range,if_pos (Nat.lt_of_lt_of_le hj (Nat.mul_le_mul_right _ hlc'))]
   simp only [Option.map_some]
   rw [Array.getElem!_eq_getD,Array.getD_eq_getD_getElem?,Array.getElem?_eq_getElem hmm]
   rfl
 ·unfold AV.Rep
  refine ⟨rfl,_,hm',fun _=>.inr ⟨_,_,c.toNat,rfl,by simp,hlc',by rw [hsz];simp⟩⟩

theorem ps_capK {P:Program} {o:Oper} {lk:Look} {n:Nat} {ev:Operand->AV} {K:AV->List Blk->List Hd->Prop} {c:Call} {x:Operand} {t e:TypeId} (ho:o.op=.call c) (hc:c.callee=.builtin .cap) (ha:c.args.toList=[x]) (ht:c.argTypes.toList=[t])
  (hd:P.underlying t=some (.slice e)) (h:pstep P lk n ev (.capK x) K):PS P o (.capK x) lk n ev K:=by
 obtain ⟨hl,cap,hx,hK⟩:=h
 refine ⟨_,_,_,hK,(by intro hh;cases hh),(by intro h hh;cases hh),fun G m w ρ _ lk2 hls hS hev _=>?_⟩
 have ha':c.args=#[x]:=by rw [<- Array.toArray_toList (xs:=c.args),ha]
 have ht':c.argTypes=#[t]:=by rw [<- Array.toArray_toList (xs:=c.argTypes),ht]
 refine Does.val (v:=.int .i64 cap) (w':=w) ?_ (PPost.val hS (by unfold AV.Rep DV.Rep;rfl))
 simp only [execOp,ho,resolve,hc,ha',ht',invoke,builtin]
 rcases hx with ⟨h,k,off,len,hx⟩ | ⟨es,hx,rfl⟩
 ·have hr:=hx ▸ hev x (by simp [ROp.operands])
  obtain ⟨loc,_,b,sz,_,hv,_⟩:=slk_live hS (hls rfl) hr (hx ▸ hl)
  simp [Builtin.cap_,run_underlying hd,hv,goInt]
 ·have hr:=hx ▸ hev x (by simp [ROp.operands])
  unfold AV.Rep at hr
  obtain ⟨_,a,hv⟩:=hr
  simp [Builtin.cap_,run_underlying hd,hv,goInt]

theorem run_append_zeros {P:Program} {t u ty e:TypeId} {i:TypeInfo} {z:Value} {kn k:IntKind} (ht:P.underlying t=some (.slice e)) (hu:P.underlying u=some (.int kn)) (hi:P.info? e=some i) (hz:i.zero=some z) (hz':z.cells.size=i.size)
  {w:World} {s:Value} {a:Option Addr} {sLen sCap m:Nat} {olds:Array Value} (hs:s=.slice a sLen sCap)
  (holds:(Builtin.firstCells i.size sLen s).run P w.drew=.ok olds w.drew)
  (hg:sCap < sLen + m) (hb:(sLen + m) * i.bytes <= 140737488355328) (h63:((sLen + m:Nat):Int) <= 9223372036854775807) :
  ∃ rest:Array Value,(Builtin.append_ #[t,u] ty #[s,.int k (m:Int)]).run P w=.ok (.slice (some ⟨w.heap.size,0,none⟩) (sLen + m) (grownCap w (sLen + m) sCap e))
    (w.drew.alloc (.cells (olds ++ Builtin.zeroCells z.cells m ++ rest) e))/\rest.size=(grownCap w (sLen + m) sCap e - (sLen + m)) * z.cells.size:=by
 refine ⟨Builtin.zeroCells z.cells (grownCap w (sLen + m) sCap e - (sLen + m)),?_,size_zeroCells _ _⟩
 have hfit:=growslice_fits (bytes:=i.bytes) hg hb
 have hn:¬ (sLen + m <= sCap):=by omega
 have hw:IntKind.i64.wrap (m:Int)=m:=by rw [IntKind.wrap_i64];omega
 have hneg:¬ ((m:Int) < 0):=by omega
 have h48:m * i.bytes <= 281474976710656:=Nat.le_trans (Nat.mul_le_mul_right _ (Nat.le_add_left m sLen)) (by omega)
 have h48i:¬ (281474976710656 < (m:Int) * (i.bytes:Int)):=by
  rw [<- Int.natCast_mul]
  omega
 have h63':¬ (9223372036854775807 < (sLen:Int) + (m:Int)):=by omega
 have h48':¬ (281474976710656 < Builtin.nextslicecap (sLen + m) sCap * i.bytes):=by omega
 subst hs
 by_cases hm:m * i.size=0
 ·have hz0:Builtin.zeroCells z.cells m=#[]:=by
   unfold Builtin.zeroCells;rw [hz',hm];simp
  simp [Builtin.append_,sizeOf,typeInfo,zeroValue,run_underlying ht,run_underlying hu,hi,hz,asInt,asIntOf,hw,hneg,h48i,hm,Question.forced,newRow,grownCap]
  rw [if_neg hn,if_neg h63',if_neg h48',holds]
  simp [hz0]
 ·simp [Builtin.append_,sizeOf,typeInfo,zeroValue,run_underlying ht,run_underlying hu,hi,hz,asInt,asIntOf,hw,hneg,h48i,hm,Question.forced,newRow,grownCap]
  rw [if_neg hn,if_neg h63',if_neg h48',holds]
  simp

theorem ps_appZ {P:Program} {o:Oper} {lk:Look} {n:Nat} {ev:Operand->AV} {K:AV->List Blk->List Hd->Prop} {c:Call} {x y:Operand} {t u e:TypeId} {kn:IntKind} {i:TypeInfo} {z:Value} (ho:o.op=.call c) (hc:c.callee=.builtin .append) (ha:c.args.toList=[x,y]) (hta:c.argTypes.toList=[t,u])
  (ht:P.underlying t=some (.slice e)) (hu:P.underlying u=some (.int kn)) (hi:P.info? e=some i) (hz:i.zero=some z) (hz':z.cells.size=i.size) (hbytes:0 < i.bytes) (hsize:0 < i.size)
  (h:pstep P lk n ev (.appZ i.size i.bytes (z.cells.toList.map zeroDV) x y) K):PS P o (.appZ i.size i.bytes (z.cells.toList.map zeroDV) x y) lk n ev K:=by
 obtain ⟨hl,len,cap,kd,j,es,hx0,hy,h0,hle,hu1,hg,hb,hK⟩:=h
 have ha':c.args=#[x,y]:=by rw [<- Array.toArray_toList (xs:=c.args),ha]
 have ht':c.argTypes=#[t,u]:=by rw [<- Array.toArray_toList (xs:=c.argTypes),hta]
 have hexec:∀ (ρ:Operand->Value) (v:Value) (w w':World),(Builtin.append_ #[t,u] o.type #[ρ x,ρ y]).run P w=.ok v w'->(execOp ρ o).run P w=.ok (.value v) w':=fun ρ v w w' h=>by
  simp only [execOp,ho,resolve,hc,ha',ht',invoke,builtin,Sem.run_bind,Sem.run_pure,Result.andThen_ok]
  simp [h]
 refine ⟨_,_,_,hK,(by intro hh;cases hh),(by intro h hh;cases hh),fun G m w ρ _ lk2 hls hS hev hn=>?_⟩
 have hvy:=rep_I (hy ▸ hev y (by simp [ROp.operands]))
 have hut:Uni i.size (es.take len):=fun e he=>hu1 e (List.mem_of_mem_take he)
 have hrx:=hev x (by simp [ROp.operands])
 obtain ⟨ad,hv⟩:∃ ad,ρ x=.slice ad len cap:=by
  rcases hx0 with ⟨hd,mt,hx,hlk⟩ | ⟨hx,rfl,rfl,rfl⟩
  ·obtain ⟨loc,hloc,b,sz,rfl,hv,hcap,hsz⟩:=slk_live hS (hls rfl) (hx ▸ hrx) (hx ▸ hl)
   exact ⟨_,hv⟩
  ·rw [hx] at hrx
   unfold AV.Rep at hrx
   exact hrx.2
 have hct:AV.content lk (ev x)=some (es.take len):=by
  rcases hx0 with ⟨hd,mt,hx,hlk⟩ | ⟨hx,rfl,rfl,rfl⟩
  ·rw [hx]
   simp only [AV.content,hlk]
   simp [hle]
  ·rw [hx];rfl
 obtain ⟨_,os,o2,o3,o4⟩:=content_run (P:=P) hS (hls rfl).row hrx hct hut
 have hlen:(es.take len).length=len:=by simp;omega
 rw [hlen] at o2
 have hfits:len + j.toNat <= 9223372036854775807:=by
  have:=Nat.le_mul_of_pos_right (len + j.toNat) hbytes
  omega
 have hjj:j=((j.toNat:Nat):Int):=by omega
 obtain ⟨rest,hrun,hrest⟩:=run_append_zeros (ty:=o.type) (k:=kd) ht hu hi hz hz' hv (by have:=o3 w.drew rfl;rwa [hlen] at this) hg hb (by omega)
 rw [<- hjj,<- hvy] at hrun
 refine Does.val (hexec ρ _ w _ hrun) ?_
 refine PPost.of_drew ?_
 have hge:=grownCap_ge w (len + j.toNat) cap e
 have hzs:(Builtin.zeroCells z.cells j.toNat).size=j.toNat * i.size:=by rw [size_zeroCells,hz']
 have hszz:(os.toArray ++ Builtin.zeroCells z.cells j.toNat ++ rest).size=grownCap w (len + j.toNat) cap e * i.size:=by
  simp only [Array.size_append,List.size_toArray,o2,hzs,hrest,hz']
  rw [<- Nat.add_mul,<- Nat.add_mul]
  congr 1;omega
 have hS1:=hS.drew
 refine PPost.new hS1 (by simpa using hn 0 (by simp)) _ _ _ (fun m' hm'=>?_) (fun m' hm' hmn=>?_)
 ·unfold BlkRep
  refine ⟨_,e,heap_alloc_new _ _,rfl,?_,?_,fun o=>Gh_new hS1 (Nat.le_refl _) o⟩
  ·rw [hszz,List.length_append,hlen,List.length_replicate];exact Nat.mul_le_mul_right _ hge
  ·refine DV.rows_append (o4 G _ 0 (Gh.le.refl G) (fun q hq=>?_)) ?_
   ·rw [Nat.zero_add,<- Array.getElem?_toList]
    simp only [Array.toList_append]
    rw [List.append_assoc,List.getElem?_append_left (by simpa using hq)]
   ·have hzl:z.cells.toList.length=i.size:=by simpa using hz'
    have:=zero_rows G (fun o=>(os.toArray ++ Builtin.zeroCells z.cells j.toNat ++ rest)[o]?) z.cells.toList j.toNat (0 + (es.take len).length * i.size) (fun q hq=>?_)
    ·rwa [hzl] at this
    ·rw [hzl] at hq
     have hpos:0 < i.size:=hsize
     have hmm:q % z.cells.size < z.cells.size:=Nat.mod_lt _ (by rw [hz'];exact hpos)
     show (os.toArray ++ Builtin.zeroCells z.cells j.toNat ++ rest)[0 + (es.take len).length * i.size + q]?=_
     rw [hlen,Nat.zero_add,Array.append_assoc,Array.getElem?_append_right (by simp [o2]),Array.getElem?_append_left (by simp [o2,hzs];omega)]
     simp only [List.size_toArray,o2,Nat.add_sub_cancel_left]
     unfold Builtin.zeroCells
     simp only [Array.getElem?_map,Array.length_toList,Array.getElem?_toList]
     rw [Array.getElem?_range,if_pos (by rw [hz'];exact hq)]
     simp only [Option.map_some]
     rw [Array.getElem!_eq_getD,Array.getD_eq_getD_getElem?,Array.getElem?_eq_getElem hmm]
     rfl
 ·unfold AV.Rep
  refine ⟨rfl,_,hmn,fun _=>.inr ⟨_,_,grownCap w (len + j.toNat) cap e,rfl,?_,hge,?_⟩⟩
  ·simp
  ·rw [hszz];simp

theorem pstep_sound {P:Program} {o:Oper} {lk:Look} {n:Nat} {ev:Operand->AV} {K:AV->List Blk->List Hd->Prop} {ro:ROp} (hr:resolveOp P o=some ro) (h:pstep P lk n ev ro K):PS P o ro lk n ev K:=by
 cases ho:o.op
 case move x=>simp only [resolveOp,ho,Option.some.injEq] at hr;subst hr;exact ps_mv (.inl ho) h
 case assign x=>simp only [resolveOp,ho,Option.some.injEq] at hr;subst hr;exact ps_mv (.inr ho) h
 case pick c a b=>simp only [resolveOp,ho,Option.some.injEq] at hr;subst hr;exact ps_pick ho h
 case makeMap T r =>
  cases r with
  | some _=>simp only [resolveOp,ho] at hr;cases hr
  | none =>
   simp only [resolveOp,ho,Option.map_eq_some_iff] at hr
   obtain ⟨⟨kd,e⟩,_,rfl⟩:=hr
   exact h.elim
 case lookup T x y ok =>
  simp only [resolveOp,ho,Option.bind_eq_some_iff,Option.map_eq_some_iff] at hr
  obtain ⟨⟨kd,e⟩,hT,i,hi,z,hz,rfl⟩:=hr
  obtain ⟨k0,h1,h2⟩:=mapD_spec hT
  exact h.elim
 case mapUpdate T x y z =>
  simp only [resolveOp,ho,Option.ite_none_right_eq_some,Option.map_eq_some_iff] at hr
  obtain ⟨_,_,_,rfl⟩:=hr
  exact h.elim
 case insert T x y z =>
  simp only [resolveOp,ho,Option.ite_none_right_eq_some,Option.map_eq_some_iff] at hr
  obtain ⟨_,_,_,rfl⟩:=hr
  exact h.elim
 case range T x =>
  simp only [resolveOp,ho,Option.map_eq_some_iff] at hr
  obtain ⟨_,_,rfl⟩:=hr
  exact h.elim
 case next x b =>
  cases b with
  | true=>simp only [resolveOp,ho] at hr;cases hr
  | false=>simp only [resolveOp,ho,Option.some.injEq] at hr;subst hr;exact h.elim
 case entry x=>simp only [resolveOp,ho,Option.some.injEq] at hr;subst hr;exact h.elim
 case alloc T=>exact ps_new ho hr h
 case box T x =>
  simp only [resolveOp,ho] at hr
  split at hr
  ·cases hr;exact ps_boxR ho h
  ·cases hr;exact ps_box ho h
 case load T x=>exact ps_load ho hr h
 case store T a x =>
  simp only [resolveOp,ho,Option.ite_none_right_eq_some,Option.map_eq_some_iff] at hr
  obtain ⟨_,i,_,rfl⟩:=hr
  exact h.elim
 case binOp op T x y yT =>
  cases hd:P.underlying T with
  | none=>simp only [resolveOp,ho,hd] at hr;cases hr
  | some d =>
   cases d
   case struct fs =>
    simp only [resolveOp,ho,hd] at hr
    rw [Option.ite_none_right_eq_some] at hr
    obtain ⟨hc,hr⟩:=hr
    simp only [Bool.and_eq_true,Bool.not_eq_true'] at hc
    split at hr
    ·rename_i kds hk;cases hr
     exact ps_eqs ho hd hc.1.1 hc.1.2 hc.2 hk h
    ·rw [Option.map_eq_some_iff] at hr
     obtain ⟨sh,hs,rfl⟩:=hr
     exact ps_eqg ho (.inr ⟨fs,hd⟩) hc.1.1 hc.2 hs h
   case array m e =>
    simp only [resolveOp,ho,hd] at hr
    split at hr
    ·rename_i k i he hi
     rw [Option.ite_none_right_eq_some] at hr
     obtain ⟨hc,hr⟩:=hr
     cases hr
     simp only [Bool.and_eq_true,Bool.not_eq_true',beq_iff_eq] at hc
     exact ps_eqa ho hd he hi hc.1.1 hc.1.2 hc.2 h
    ·rw [Option.ite_none_right_eq_some] at hr
     obtain ⟨hc,hr⟩:=hr
     simp only [Bool.and_eq_true,Bool.not_eq_true'] at hc
     rw [Option.map_eq_some_iff] at hr
     obtain ⟨sh,hs,rfl⟩:=hr
     exact ps_eqg ho (.inl ⟨_,_,hd⟩) hc.1 hc.2 hs h
   case bool=>exact ps_beq ho hd hr h
   case interface ms =>
    simp only [resolveOp,ho,hd] at hr
    split at hr
    ·rw [Option.ite_none_right_eq_some] at hr
     obtain ⟨hc,hr⟩:=hr
     cases hr;exact ps_isn ho hd hc h
    ·cases hr
   case int k=>simp only [resolveOp,ho,hd,Option.some.injEq] at hr;subst hr;exact ps_bin ho h
   case string=>simp only [resolveOp,ho,hd,Option.some.injEq] at hr;subst hr;exact ps_bin ho h
   case slice e=>exact ps_isnil ho hd hr h
   case pointer e=>exact ps_isp ho hd hr h
   all_goals (simp only [resolveOp,ho,hd] at hr;cases hr)
 case unOp op T x=>simp only [resolveOp,ho,Option.some.injEq] at hr;subst hr;exact ps_un ho h
 case fieldAddr T x k=>exact ps_faddr ho hr h
 case field T x k=>exact ps_field ho hr h
 case indexAddr T x i =>
  cases hd:P.underlying T with
  | none=>simp only [resolveOp,ho,hd] at hr;cases hr
  | some d =>
   cases d
   case slice e=>exact ps_iaddr ho hd hr h
   case array m e =>
    simp only [resolveOp,ho,hd,Option.ite_none_right_eq_some,Option.map_eq_some_iff] at hr
    obtain ⟨hm,inf,hi,rfl⟩:=hr
    exact ps_iaddrA ho hd hm hi rfl h
   all_goals (simp only [resolveOp,ho,hd] at hr;cases hr)
 case sliceToArrayPointer T x =>
  simp only [resolveOp,ho] at hr
  split at hr
  ·rename_i m e hd;cases hr;exact ps_arrP ho hd h
  ·cases hr
 case nilCheck x=>simp only [resolveOp,ho,Option.some.injEq] at hr;subst hr;exact ps_nilc ho h
 case index T x i =>
  cases hd:P.underlying T with
  | none=>simp only [resolveOp,ho,hd] at hr;cases hr
  | some d =>
   cases d
   case string=>simp only [resolveOp,ho,hd,Option.some.injEq] at hr;subst hr;exact ps_ixs ho hd h
   case array m e =>
    simp only [resolveOp,ho,hd] at hr
    split at hr
    case h_2=>cases hr
    rename_i d inf he hi
    cases hr
    exact ps_idxA ho hd he hi rfl h
   all_goals (simp only [resolveOp,ho,hd] at hr;cases hr)
 case slice T x lo hi mx =>
  cases hd:P.underlying T with
  | none=>simp only [resolveOp,ho,hd] at hr;cases hr
  | some d =>
   cases d
   case string =>
    simp only [resolveOp,ho,hd] at hr
    split at hr
    case isFalse=>cases hr
    rename_i hm
    cases hr
    have:mx=none:=by simpa using hm
    subst this
    exact ps_sls ho hd h
   case slice e=>exact ps_sll ho hd hr h
   case array m e =>
    simp only [resolveOp,ho,hd,Option.ite_none_right_eq_some,Option.bind_eq_some_iff] at hr
    obtain ⟨hm,inf,hi,h1,hr⟩:=hr
    cases hr
    have:mx=none:=by simpa using hm
    subst this
    exact ps_slsA ho hd hi h1 h
   all_goals (simp only [resolveOp,ho,hd] at hr;cases hr)
 case convert src dst x =>
  simp only [resolveOp,ho] at hr
  split at hr
  ·rename_i k0 k hs hd;cases hr;exact ps_cvI ho hs hd h
  ·rename_i e hs hd
   split at hr
   ·rename_i he;cases hr;exact ps_cvS ho hs he hd h
   ·cases hr
  ·rename_i e hs hd
   split at hr
   ·rename_i he;cases hr;exact ps_cvB ho hs hd he h
   ·cases hr
  ·cases hr
 case makeInterface T x =>
  simp only [resolveOp,ho] at hr
  split at hr
  ·rename_i fs hT
   rw [Option.ite_none_right_eq_some] at hr
   obtain ⟨_,hr⟩:=hr
   cases hr;exact ps_mkI ho hT h
  ·cases hr
 case typeAssert x xT T ok =>
  simp only [resolveOp,ho] at hr
  split at hr
  ·rename_i fs hT
   rw [Option.ite_none_right_eq_some] at hr
   obtain ⟨⟨hok,_⟩,hr⟩:=hr
   subst hok
   cases hr;exact ps_tas ho hT h
  ·cases hr
 case panic x=>simp only [resolveOp,ho,Option.some.injEq] at hr;subst hr;exact h.elim
 case makeSlice T x y =>
  cases hd:P.underlying T with
  | none=>simp only [resolveOp,ho,hd] at hr;cases hr
  | some d =>
   cases d
   case slice e =>
    simp only [resolveOp,ho,hd,Option.bind_eq_some_iff,Option.ite_none_right_eq_some] at hr
    obtain ⟨i,hi,z,hz,hz',hr⟩:=hr
    cases hr
    exact ps_mks ho hd hi hz (by simpa using hz') h
   all_goals (simp only [resolveOp,ho,hd] at hr;cases hr)
 case extract x i=>simp only [resolveOp,ho,Option.some.injEq] at hr;subst hr;exact ps_ext ho h
 case makeFunc fn first caps =>
  cases fn
  case func f=>exact ps_mkf ho hr h
  all_goals (simp only [resolveOp,ho] at hr;cases hr)
 case build T ps =>
  cases hd:P.underlying T with
  | none=>simp only [resolveOp,ho,hd] at hr;cases hr
  | some d =>
   cases hi:P.info? T with
   | none=>simp only [resolveOp,ho,hd,hi] at hr;cases d <;> cases hr
   | some i =>
    cases d
    case struct fs=>exact ps_build ho hd hi hr h
    case array m e =>
     simp only [resolveOp,ho,hd,hi,Option.bind_eq_some_iff,Option.map_eq_some_iff] at hr
     obtain ⟨fi,hfi,z,hz,rfl⟩:=hr
     exact ps_buildA ho hd hi hz hfi h
    all_goals (simp only [resolveOp,ho,hd,hi] at hr;cases hr)
 case buildSlice T k ps=>exact ps_bslice ho hr h
 case call c =>
  cases hc:c.callee
  case value f=>simp only [resolveOp,ho,hc,Option.some.injEq] at hr;subst hr;exact ps_call ho hc h
  case invoke r nm=>simp only [resolveOp,ho,hc] at hr;cases hr
  case builtin b =>
   cases b
   case len =>
    simp only [resolveOp,ho,hc] at hr
    split at hr
    case h_2=>cases hr
    rename_i x t ha ht
    split at hr
    ·rename_i hd;cases hr;exact ps_len ho hc ha ht (by simp [hd]) h
    ·rename_i e hd;cases hr;exact ps_len ho hc ha ht (by simp [hd]) h
    ·rename_i k0 e hd;cases hr;exact h.elim
    ·cases hr
   case delete =>
    exfalso
    simp only [resolveOp,ho,hc] at hr
    split at hr
    ·simp only [Option.ite_none_right_eq_some,Option.map_eq_some_iff] at hr
     obtain ⟨_,_,_,rfl⟩:=hr
     exact h.elim
    ·cases hr
   case min =>
    simp only [resolveOp,ho,hc] at hr
    split at hr
    case h_2=>cases hr
    rename_i x y ha
    cases hr
    exact ps_mm ho (by rw [hc];rfl) ha h
   case max =>
    simp only [resolveOp,ho,hc] at hr
    split at hr
    case h_2=>cases hr
    rename_i x y ha
    cases hr
    exact ps_mm ho (by rw [hc];rfl) ha h
   case cap =>
    simp only [resolveOp,ho,hc] at hr
    split at hr
    case h_2=>cases hr
    rename_i x t ha ht
    split at hr
    ·rename_i e hd;cases hr;exact ps_capK ho hc ha ht hd h
    ·cases hr
   case clear =>
    exfalso
    simp only [resolveOp,ho,hc] at hr
    split at hr
    ·split at hr
     ·simp only [Option.bind_eq_some_iff,Option.ite_none_right_eq_some] at hr
      obtain ⟨_,_,_,_,_,hr⟩:=hr
      cases hr
      exact h.elim
     ·cases hr
    ·cases hr
   case copy =>
    exfalso
    simp only [resolveOp,ho,hc] at hr
    split at hr
    ·split at hr
     ·simp only [Option.map_eq_some_iff] at hr
      obtain ⟨_,_,hr⟩:=hr
      cases hr
      exact h.elim
     ·cases hr
    ·cases hr
   case append =>
    simp only [resolveOp,ho,hc] at hr
    split at hr
    case h_2=>cases hr
    rename_i x y t u ha ht
    split at hr
    case h_1 =>
     rename_i e kn hd1 hd2
     simp only [Option.bind_eq_some_iff,Option.ite_none_right_eq_some,Bool.and_eq_true,decide_eq_true_eq,beq_iff_eq] at hr
     obtain ⟨i,hi,z,hz,⟨⟨h1,h2⟩,h3⟩,hr⟩:=hr
     cases hr
     exact ps_appZ ho hc ha ht hd1 hd2 hi hz h3 h2 h1 h
    case h_3=>cases hr
    rename_i e d _ hd1 hd2
    simp only [Option.bind_eq_some_iff] at hr
    obtain ⟨i,hi,hr⟩:=hr
    rw [Option.ite_none_right_eq_some] at hr
    obtain ⟨hcond,hr⟩:=hr
    cases hr
    simp only [Bool.and_eq_true,decide_eq_true_eq] at hcond
    obtain ⟨⟨⟨h1,h2⟩,h3⟩,h4⟩:=hcond
    refine ps_app ho hc ha ht hd1 hd2 ?_ hi h4 h3 h
    cases d
    case string=>exact .inl rfl
    case slice=>exact .inr ⟨_,rfl⟩
    all_goals (simp at h1)
   all_goals (simp only [resolveOp,ho,hc] at hr;cases hr)
 all_goals (simp only [resolveOp,ho] at hr;cases hr)

end Go.Eng


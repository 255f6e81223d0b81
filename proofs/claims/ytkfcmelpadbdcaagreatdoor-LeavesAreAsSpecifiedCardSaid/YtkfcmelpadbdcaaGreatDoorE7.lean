/- Texts of this claim. -/
import Derived.Test.YtkfcmelpadbdcaaGreatDoorE6
set_option linter.all false
set_option linter.unusedSimpArgs false
set_option linter.unusedVariables false
namespace Go.Eng
open Go.RowKit
section
variable {P:Program} {o:Oper} {lk:Look} {n:Nat} {ev:Operand->AV} {K:AV->List Blk->List Hd->Prop}

theorem live_of {G:Gh} {m:HM} {w:World} {lk2:Look} (hS:Sim G m lk2 w) (hls:LkSame lk lk2) {h:Hd} {loc:Loc} (hm:m h=some loc) (hl:(lk h).isSome=true):loc ≠ .dead:=fun e=>by
 subst e
 obtain ⟨bl,hb⟩:=Option.isSome_iff_exists.1 hl
 obtain ⟨bl',h1,_⟩:=hls h bl hb
 rw [hS.dead h hm] at h1
 cases h1
theorem ptr_live {G:Gh} {m:HM} {w:World} {lk2:Look} (hS:Sim G m lk2 w) (hls:LkSame lk lk2) {h:Hd} {off:Nat} {v:Value} (hr:AV.Rep G m (.ptr h off) v) (hl:AV.live lk (.ptr h off)=true) :
  ∃ b sz,m h=some (.at_ b sz)/\v=.pointer (some ⟨b,off,none⟩):=by
 unfold AV.Rep at hr
 obtain ⟨_,loc,h1,h2⟩:=hr
 obtain ⟨b,sz,rfl,hv⟩:=h2 (live_of hS hls h1 hl)
 exact ⟨b,sz,h1,hv⟩
theorem eptr_live {G:Gh} {m:HM} {w:World} {lk2:Look} (hS:Sim G m lk2 w) (hls:LkSame lk lk2) {h:Hd} {k ix off:Nat} {v:Value} (hr:AV.Rep G m (.eptr h k ix off) v) (hl:AV.live lk (.eptr h k ix off)=true) :
  ∃ b sz,m h=some (.at_ b sz)/\v=.pointer (some ⟨b,ix * k + off,none⟩):=by
 unfold AV.Rep at hr
 obtain ⟨_,loc,h1,h2⟩:=hr
 obtain ⟨b,sz,rfl,hv⟩:=h2 (live_of hS hls h1 hl)
 exact ⟨b,sz,h1,hv⟩
theorem sl_live {G:Gh} {m:HM} {w:World} {lk2:Look} (hS:Sim G m lk2 w) (hls:LkSame lk lk2) {h:Hd} {k off len:Nat} {v:Value} (hr:AV.Rep G m (.sl h k off len) v) (hl:AV.live lk (.sl h k off len)=true) :
  ∃ loc,m h=some loc/\slRep loc k off len v:=by
 unfold AV.Rep at hr
 obtain ⟨_,loc,h1,h2⟩:=hr
 exact ⟨loc,h1,h2 (live_of hS hls h1 hl)⟩

theorem slk_live {G:Gh} {m:HM} {w:World} {lk2:Look} (hS:Sim G m lk2 w) (hls:LkSame lk lk2) {h:Hd} {k off len cap:Nat} {v:Value} (hr:AV.Rep G m (.slk h k off len cap) v) (hl:AV.live lk (.slk h k off len cap)=true) :
  ∃ loc,m h=some loc/\slkRep loc k off len cap v:=by
 unfold AV.Rep at hr
 obtain ⟨_,loc,h1,h2⟩:=hr
 exact ⟨loc,h1,h2 (live_of hS hls h1 hl)⟩

theorem eadd_rep {G:Gh} {m:HM} {h:Hd} {k ix o d b sz:Nat} (hloc:m h=some (.at_ b sz)):AV.Rep G m (AV.eadd h k ix o d) (.pointer (some ⟨b,ix * k + o + d,none⟩)):=by
 unfold AV.eadd
 split
 ·rename_i e;subst e
  unfold AV.Rep
  exact ⟨rfl,_,hloc,fun _=>⟨b,sz,rfl,by rw [Nat.mul_one,Nat.mul_one,Nat.add_zero]⟩⟩
 ·unfold AV.Rep
  exact ⟨rfl,_,hloc,fun _=>⟨b,sz,rfl,by rw [Nat.add_assoc]⟩⟩
theorem ps_faddr {T k:Nat} {x:Operand} {ro:ROp} (ho:o.op=.fieldAddr T x k) (hr:resolveOp P o=some ro) (h:pstep P lk n ev ro K):PS P o ro lk n ev K:=by
 simp only [resolveOp,ho,Option.bind_eq_some_iff] at hr
 obtain ⟨f,hf,i,hi,hr⟩:=hr
 split at hr
 case isTrue=>cases hr
 rename_i hsz
 cases hr
 have hfs:∃ fs,P.underlying T=some (.struct fs)/\fs[k]?=some f:=by
  unfold fieldOf at hf
  split at hf
  ·exact ⟨_,‹_›,hf⟩
  ·cases hf
 obtain ⟨fs,hT,hk⟩:=hfs
 have run:∀ (a:Addr) (w:World),(Instr.fieldAt T (.pointer (some a)) k).run P w=.ok (.pointer (some (a.add f.offset))) w:=fun a w=>by
  simp [Instr.fieldAt,run_underlying hT,hk,Instr.sureAddr,fieldPlace,run_size hi,hsz]
 have hexec:∀ (ρ:Operand->Value) (a:Addr) (w:World),ρ x=.pointer (some a)->(execOp ρ o).run P w=.ok (.value (.pointer (some (a.add f.offset)))) w:=fun ρ a w hx=>by
  simp [execOp,ho,hx,run]
 obtain ⟨hlive,h'⟩:=h
 generalize hx:ev x=ax at h' hlive
 split at h'
 ·rename_i hd off
  refine ⟨_,_,_,h',by first | exact fun _=>⟨rfl,rfl⟩ | (intro hh;cases hh),(by intro h hh;first | (cases hh;done) | exact (List.mem_filter.1 hh).2 | (split at hh <;> first | exact (List.mem_filter.1 hh).2 | cases hh)),fun G m w ρ _ lk2 hls hS hev _=>?_⟩
  obtain ⟨b,sz,hloc,hp⟩:=ptr_live hS (hls rfl) (evr hev hx (by simp [ROp.operands])) hlive
  refine Does.val (hexec ρ _ w hp) (PPost.val hS ?_)
  unfold AV.Rep
  exact ⟨rfl,_,hloc,fun _=>⟨b,sz,rfl,by rw [Addr.add_lit]⟩⟩
 ·rename_i hd k' ix off
  refine ⟨_,_,_,h',by first | exact fun _=>⟨rfl,rfl⟩ | (intro hh;cases hh),(by intro h hh;first | (cases hh;done) | exact (List.mem_filter.1 hh).2 | (split at hh <;> first | exact (List.mem_filter.1 hh).2 | cases hh)),fun G m w ρ _ lk2 hls hS hev _=>?_⟩
  obtain ⟨b,sz,hloc,hp⟩:=eptr_live hS (hls rfl) (evr hev hx (by simp [ROp.operands])) hlive
  refine Does.val (hexec ρ _ w hp) (PPost.val hS ?_)
  rw [Addr.add_lit]
  exact eadd_rep hloc
 ·rename_i ds
  refine ⟨_,_,_,h',by first | exact fun _=>⟨rfl,rfl⟩ | (intro hh;cases hh),(by intro h hh;first | (cases hh;done) | exact (List.mem_filter.1 hh).2 | (split at hh <;> first | exact (List.mem_filter.1 hh).2 | cases hh)),fun G m w ρ _ lk2 _ hS hev _=>?_⟩
  have hp:=evr hev hx (by simp [ROp.operands])
  unfold AV.Rep at hp
  obtain ⟨b,o',hp,hc⟩:=hp
  refine Does.val (hexec ρ _ w hp) (PPost.val hS ?_)
  unfold AV.Rep
  exact ⟨b,o' + f.offset,by rw [Addr.add_lit],DV.cells_drop _ hc⟩
 ·exact h'.elim

theorem ps_faddrS {T k off:Nat} {x:Operand} (ho:o.op=.fieldAddr T x k) (hr:resolveOp P o=some (.faddr off x)) (h:pstep P lk n ev (.faddrS off x) K):PS P o (.faddrS off x) lk n ev K:=by
 obtain ⟨hs,hv,h'⟩:=h
 obtain ⟨hdl,hhd⟩:=Option.isSome_iff_exists.1 hs
 have hp:pstep P (fun y=>if y=hdl then lk y else none) n ev (.faddr off x) (fun a nbs fz=>nbs=[]/\fz=[]/\K a nbs fz):=by
  show AV.live _ (ev x)=true/\_
  generalize hx:ev x=v at hv hhd h'
  cases v <;> first | (cases hhd;done) | skip
  case ptr hh o=>cases hhd;exact ⟨by simpa [AV.live] using hv,rfl,rfl,h'⟩
  case eptr hh k2 ix o=>cases hhd;exact ⟨by simpa [AV.live] using hv,rfl,rfl,h'⟩
  case sl hh k2 ix o=>exact h'.elim
 obtain ⟨a,nbs,fz,⟨rfl,rfl,hK⟩,_,_,hD⟩:=ps_faddr ho hr hp
 refine ⟨a,[],[],hK,fun _=>⟨rfl,rfl⟩,(by intro h hh;cases hh),fun G m w ρ hρ lk2 hls hS hev hn=>hD G m w ρ hρ lk2 (fun _=>?_) hS hev hn⟩
 have he:lk2 hdl=lk hdl:=hls hdl hhd
 intro y b hb
 have hy:y=hdl:=by
  by_cases e:y=hdl
  ·exact e
  ·simp only [if_neg e] at hb;cases hb
 subst hy
 simp only [if_true] at hb
 exact ⟨b,he.trans hb,.inl rfl⟩

theorem ps_field {T k:Nat} {x:Operand} {ro:ROp} (ho:o.op=.field T x k) (hr:resolveOp P o=some ro) (h:pstep P lk n ev ro K):PS P o ro lk n ev K:=by
 simp only [resolveOp,ho,Option.bind_eq_some_iff] at hr
 obtain ⟨f,hf,hr⟩:=hr
 split at hr
 case h_2=>cases hr
 rename_i d i hd hi
 cases hr
 have hfs:∃ fs,P.underlying T=some (.struct fs)/\fs[k]?=some f:=by
  unfold fieldOf at hf
  split at hf
  ·exact ⟨_,‹_›,hf⟩
  ·cases hf
 obtain ⟨fs,hT,hk⟩:=hfs
 obtain ⟨cs,hx,h⟩:=h
 have hexec:∀ (ρ:Operand->Value) (vs:Array Value) (w:World),ρ x=.agg vs->(execOp ρ o).run P w=((part f.type vs f.offset).run P w).andThen fun v w=>.ok (.value v) w:=fun ρ vs w hx=>by
  simp [execOp,ho,hx,Instr.field,run_underlying hT,hk,asAgg]
 have hrepx:∀ (G:Gh) (m:HM) (ρ:Operand->Value),(∀ z ∈ (ROp.field f.offset (if isAggD d then some i.size else none) x).operands,AV.Rep G m (ev z) (ρ z))->∃ vs:Array Value,ρ x=.agg vs/\AV.RepL G m cs vs.toList:=fun G m ρ hev=>by
  have:=evr hev hx (by simp [ROp.operands])
  unfold AV.Rep at this
  exact this
 cases ha:isAggD d with
 | true =>
  rw [ha] at h
  obtain ⟨hle,hK⟩:=h
  refine ⟨_,_,_,hK,by first | exact fun _=>⟨rfl,rfl⟩ | (intro hh;cases hh),(by intro h hh;first | (cases hh;done) | exact (List.mem_filter.1 hh).2 | (split at hh <;> first | exact (List.mem_filter.1 hh).2 | cases hh)),fun G m w ρ _ lk2 hls hS hev _=>?_⟩
  obtain ⟨vs,hv,hrep⟩:=hrepx G m ρ hev
  have h1:=AV.RepL_take i.size (AV.RepL_drop f.offset hrep)
  refine Does.val (v:=.agg (vs.extract f.offset (f.offset + i.size))) (w':=w) ?_ (PPost.val hS ?_)
  ·rw [hexec ρ vs w hv]
   simp [part,run_isAgg hd,ha,run_size hi]
  ·unfold AV.Rep
   refine ⟨_,rfl,?_⟩
   rw [Array.toList_extract,List.extract_eq_take_drop,Nat.add_sub_cancel_left]
   exact h1
 | false =>
  rw [ha] at h
  obtain ⟨a,hcs,hK⟩:=h
  refine ⟨_,_,_,hK,by first | exact fun _=>⟨rfl,rfl⟩ | (intro hh;cases hh),(by intro h hh;first | (cases hh;done) | exact (List.mem_filter.1 hh).2 | (split at hh <;> first | exact (List.mem_filter.1 hh).2 | cases hh)),fun G m w ρ _ lk2 hls hS hev _=>?_⟩
  obtain ⟨vs,hv,hrep⟩:=hrepx G m ρ hev
  obtain ⟨v,hv',hr⟩:=AV.RepL_get hrep hcs
  refine Does.val (v:=v) (w':=w) ?_ (PPost.val hS hr)
  rw [hexec ρ vs w hv]
  rw [Array.getElem?_toList] at hv'
  simp [part,run_isAgg hd,ha,hv']

theorem ps_ext {x:Operand} {k:Nat} (ho:o.op=.extract x k) (h:pstep P lk n ev (.ext x k) K):PS P o (.ext x k) lk n ev K:=by
 obtain ⟨cs,a,hx,hk,hK⟩:=h
 refine ⟨_,_,_,hK,by first | exact fun _=>⟨rfl,rfl⟩ | (intro hh;cases hh),(by intro h hh;first | (cases hh;done) | exact (List.mem_filter.1 hh).2 | (split at hh <;> first | exact (List.mem_filter.1 hh).2 | cases hh)),fun G m w ρ _ lk2 hls hS hev _=>?_⟩
 have:=evr hev hx (by simp [ROp.operands])
 unfold AV.Rep at this
 obtain ⟨vs,hv,hrep⟩:=this
 obtain ⟨v,hv',hr⟩:=AV.RepL_get hrep hk
 rw [Array.getElem?_toList] at hv'
 refine Does.val (v:=v) (w':=w) ?_ (PPost.val hS hr)
 simp [execOp,ho,hv,Instr.extract,hv']

theorem ps_mkf {f:Nat} {first caps:Array Operand} {ro:ROp} (ho:o.op=.makeFunc (.func f) first caps) (hr:resolveOp P o=some ro) (h:pstep P lk n ev ro K):PS P o ro lk n ev K:=by
 simp only [resolveOp,ho] at hr
 split at hr
 case isFalse=>cases hr
 rename_i hf
 cases hr
 refine ⟨_,_,_,h,by first | exact fun _=>⟨rfl,rfl⟩ | (intro hh;cases hh),(by intro h hh;first | (cases hh;done) | exact (List.mem_filter.1 hh).2 | (split at hh <;> first | exact (List.mem_filter.1 hh).2 | cases hh)),fun G m w ρ _ lk2 hls hS hev _=>?_⟩
 refine Does.val (v:=.func (.func f) #[] (caps.map ρ)) (w':=w) ?_ (PPost.val hS ?_)
 ·have:first=#[]:=by simpa using hf
  subst this
  simp [execOp,ho,Instr.makeFunc]
 ·unfold AV.Rep
  refine ⟨_,rfl,?_⟩
  rw [Array.toList_map]
  exact AV.RepL_map (fun y hy=>hev y (by simpa [ROp.operands] using hy))

theorem ps_mm {mx:Bool} {c:Call} {x y:Operand} (ho:o.op=.call c) (hc:c.callee=.builtin (if mx=true then .max else .min)) (ha:c.args.toList=[x,y]) (h:pstep P lk n ev (.mm mx x y) K) :
  PS P o (.mm mx x y) lk n ev K:=by
 obtain ⟨k,p,q,hx,hy,hK⟩:=h
 refine ⟨_,_,_,hK,by first | exact fun _=>⟨rfl,rfl⟩ | (intro hh;cases hh),(by intro h hh;first | (cases hh;done) | exact (List.mem_filter.1 hh).2 | (split at hh <;> first | exact (List.mem_filter.1 hh).2 | cases hh)),fun G m w ρ _ lk2 hls hS hev _=>?_⟩
 have e1:=rep_I (evr hev hx (by simp [ROp.operands]))
 have e2:=rep_I (evr hev hy (by simp [ROp.operands]))
 have ha':c.args=#[x,y]:=by rw [<- Array.toArray_toList (xs:=c.args),ha]
 refine Does.val (v:=.int k (if mx=true then max p q else min p q)) (w':=w) ?_ (PPost.val hS (by unfold AV.Rep DV.Rep;rfl))
 cases mx
 ·simp only [execOp,ho,resolve,hc,ha',invoke,builtin,Bool.false_eq_true,if_false]
  rw [show min p q=if q < p then q else p by simp only [Int.min_def];split <;> split <;> omega]
  simp [Builtin.min_,Builtin.min2,e1,e2]
 ·simp only [execOp,ho,resolve,hc,ha',invoke,builtin,if_true]
  rw [show max p q=if q > p then q else p by simp only [Int.max_def];split <;> split <;> omega]
  simp [Builtin.max_,Builtin.max2,e1,e2]

theorem size_mk (t:List UInt8):(⟨t.toArray⟩:ByteArray).size=t.length:=by simp [ByteArray.size]

theorem rep_L {G:Gh} {m:HM} {es:List (List DV)} {v:Value} (h:AV.Rep G m (.D (.L es)) v):∃ a cap,v=.slice a es.length cap/\es.length <= cap/\(a=none->cap=0) /\
   (es ≠ []->∃ b o k,a=some ⟨b,o,none⟩/\DV.rows G (G b) k o es):=by unfold AV.Rep DV.Rep at h;exact h

theorem len_rep {G:Gh} {m:HM} {w:World} {lk2:Look} (hS:Sim G m lk2 w) (hls:LkSame lk lk2) {str:Bool} {a:AV} {v:Value} {k:Nat} (hr:AV.Rep G m a v) (hl:AV.live lk a=true) (hk:a.len? str=some k) :
  (str=true/\∃ s:ByteArray,v=.string s/\s.size=k)\/(str=false/\∃ p cap,v=.slice p k cap):=by
 unfold AV.len? at hk
 split at hk
 ·cases hk
  obtain ⟨p,cap,h1,_⟩:=rep_L hr
  exact .inr ⟨rfl,p,cap,h1⟩
 ·cases hk
  unfold AV.Rep at hr
  obtain ⟨_,p,h1⟩:=hr
  exact .inr ⟨rfl,p,_,h1⟩
 ·cases hk
  obtain ⟨loc,_,h2⟩:=sl_live hS hls hr hl
  rcases h2 with ⟨p,h3,rfl⟩ | ⟨b,sz,cap,_,h3,_⟩
  ·exact .inr ⟨rfl,p,_,h3⟩
  ·exact .inr ⟨rfl,_,_,h3⟩
 ·cases hk
  obtain ⟨loc,_,h2⟩:=slk_live hS hls hr hl
  obtain ⟨b,sz,_,h3,_⟩:=h2
  exact .inr ⟨rfl,_,_,h3⟩
 ·cases hk
  exact .inl ⟨rfl,_,rep_S hr,size_mk _⟩
 ·cases hk

theorem ps_len {str:Bool} {c:Call} {x:Operand} {t:TypeId} (ho:o.op=.call c) (hc:c.callee=.builtin .len) (ha:c.args.toList=[x]) (ht:c.argTypes.toList=[t])
  (hd:if str=true then P.underlying t=some .string else ∃ e,P.underlying t=some (.slice e)) (h:pstep P lk n ev (.len str x) K):PS P o (.len str x) lk n ev K:=by
 obtain ⟨hl,k,hk,hK⟩:=h
 refine ⟨_,_,_,hK,by first | exact fun _=>⟨rfl,rfl⟩ | (intro hh;cases hh),(by intro h hh;first | (cases hh;done) | exact (List.mem_filter.1 hh).2 | (split at hh <;> first | exact (List.mem_filter.1 hh).2 | cases hh)),fun G m w ρ _ lk2 hls hS hev _=>?_⟩
 have hr:=hev x (by simp [ROp.operands])
 have ha':c.args=#[x]:=by rw [<- Array.toArray_toList (xs:=c.args),ha]
 have ht':c.argTypes=#[t]:=by rw [<- Array.toArray_toList (xs:=c.argTypes),ht]
 refine Does.val (v:=.int .i64 k) (w':=w) ?_ (PPost.val hS (by unfold AV.Rep DV.Rep;rfl))
 simp only [execOp,ho,resolve,hc,ha',ht',invoke,builtin]
 rcases len_rep hS (hls rfl) hr hl hk with ⟨rfl,s,h1,h2⟩ | ⟨rfl,p,cap,h1⟩
 ·simp only [if_true] at hd
  simp [Builtin.len_,run_underlying hd,h1,h2,goInt]
 ·obtain ⟨e,hd⟩:∃ e,P.underlying t=some (.slice e):=by simpa using hd
  simp [Builtin.len_,run_underlying hd,h1,goInt]

theorem ps_iaddr {T e:TypeId} {x i:Operand} {ro:ROp} (ho:o.op=.indexAddr T x i) (hT:P.underlying T=some (.slice e)) (hr:resolveOp P o=some ro) (h:pstep P lk n ev ro K):PS P o ro lk n ev K:=by
 simp only [resolveOp,ho,hT] at hr
 simp only [Option.map_eq_some_iff] at hr
 obtain ⟨inf,hi,rfl⟩:=hr
 obtain ⟨hl,kd,j,hj,h0,h'⟩:=h
 have run:∀ (a:Addr) (len cap:Nat) (w:World),j < len->(Instr.indexAt T (.slice (some a) len cap) (.int kd j)).run P w=.ok (.pointer (some (a.add (j.toNat * inf.size)))) w:=fun a len cap w hlt=>by
  simp [Instr.indexAt,run_underlying hT,asIntOf,h0,hlt,run_size hi]
 have hexec:∀ (ρ:Operand->Value) (a:Addr) (len cap:Nat) (w:World),ρ x=.slice (some a) len cap->ρ i=.int kd j->j < len->(execOp ρ o).run P w=.ok (.value (.pointer (some (a.add (j.toNat * inf.size))))) w:=fun ρ a len cap w hx hi' hlt=>by
  simp [execOp,ho,hx,hi',run a len cap w hlt]
 have hlist:∀ (es:List (List DV)) (e:List DV),es[j.toNat]?=some e->e.length=inf.size->∀ (G:Gh) (m:HM) (w:World) (ρ:Operand->Value) (lk2:Look),Sim G m lk2 w->AV.Rep G m (.D (.L es)) (ρ x)->ρ i=.int kd j ->
   Does P o ρ w (PPost G m lk2 n (.rop e) [] [] w):=fun es e' he hlen G m w ρ lk2 hS hr hi'=>by
  obtain ⟨p,cap,hv,hcap,_,hne⟩:=rep_L hr
  have hlt:=(List.getElem?_eq_some_iff.1 he).1
  obtain ⟨b,off,k,rfl,hrows⟩:=hne (fun e=>by subst e;simp at hlt)
  obtain ⟨hk,hc⟩:=DV.rows_get hrows he
  refine Does.val (hexec ρ _ _ _ w hv hi' (by omega)) (PPost.val hS ?_)
  unfold AV.Rep
  refine ⟨b,off + j.toNat * inf.size,by rw [Addr.add_lit],?_⟩
  rw [<- hlen,hk];exact hc
 generalize hx:ev x=ax at h' hl
 split at h'
 ·obtain ⟨e',he,hlen,hK⟩:=h'
  refine ⟨_,_,_,hK,by first | exact fun _=>⟨rfl,rfl⟩ | (intro hh;cases hh),(by intro h hh;first | (cases hh;done) | exact (List.mem_filter.1 hh).2 | (split at hh <;> first | exact (List.mem_filter.1 hh).2 | cases hh)),fun G m w ρ _ lk2 hls hS hev _=>?_⟩
  exact hlist _ e' he hlen G m w ρ lk2 hS (evr hev hx (by simp [ROp.operands])) (rep_I (evr hev hj (by simp [ROp.operands])))
 ·obtain ⟨e',he,hlen,hK⟩:=h'
  refine ⟨_,_,_,hK,by first | exact fun _=>⟨rfl,rfl⟩ | (intro hh;cases hh),(by intro h hh;first | (cases hh;done) | exact (List.mem_filter.1 hh).2 | (split at hh <;> first | exact (List.mem_filter.1 hh).2 | cases hh)),fun G m w ρ _ lk2 hls hS hev _=>?_⟩
  have:=evr hev hx (by simp [ROp.operands])
  refine hlist _ e' he hlen G m w ρ lk2 hS ?_ (rep_I (evr hev hj (by simp [ROp.operands])))
  unfold AV.Rep at this |-
  exact this.1
 ·rename_i hd k' off len
  obtain ⟨rfl,hlt,hK⟩:=h'
  refine ⟨_,_,_,hK,by first | exact fun _=>⟨rfl,rfl⟩ | (intro hh;cases hh),(by intro h hh;first | (cases hh;done) | exact (List.mem_filter.1 hh).2 | (split at hh <;> first | exact (List.mem_filter.1 hh).2 | cases hh)),fun G m w ρ _ lk2 hls hS hev _=>?_⟩
  obtain ⟨loc,hloc,hs⟩:=sl_live hS (hls rfl) (evr hev hx (by simp [ROp.operands])) hl
  rcases hs with ⟨p,_,rfl⟩ | ⟨b,sz,cap,rfl,hv,hcap,hsz⟩
  ·omega
  ·refine Does.val (hexec ρ _ _ _ w hv (rep_I (evr hev hj (by simp [ROp.operands]))) hlt) (PPost.val hS ?_)
   unfold AV.Rep
   refine ⟨rfl,_,hloc,fun _=>⟨b,sz,rfl,?_⟩⟩
   rw [Addr.add_lit,<- Nat.add_mul,Nat.add_zero]
 ·exact h'.elim

theorem ps_ixs {T:TypeId} {x i:Operand} (ho:o.op=.index T x i) (hT:P.underlying T=some .string) (h:pstep P lk n ev (.ixs x i) K):PS P o (.ixs x i) lk n ev K:=by
 obtain ⟨t,kd,j,c,hx,hi,h0,hc,hK⟩:=h
 refine ⟨_,_,_,hK,by first | exact fun _=>⟨rfl,rfl⟩ | (intro hh;cases hh),(by intro h hh;first | (cases hh;done) | exact (List.mem_filter.1 hh).2 | (split at hh <;> first | exact (List.mem_filter.1 hh).2 | cases hh)),fun G m w ρ _ lk2 hls hS hev _=>?_⟩
 have e1:=rep_S (evr hev hx (by simp [ROp.operands]))
 have e2:=rep_I (evr hev hi (by simp [ROp.operands]))
 have hlt:=(List.getElem?_eq_some_iff.1 hc).1
 have hget:(⟨t.toArray⟩:ByteArray)[j.toNat]?=some c:=by
  rw [getElem?_pos _ _ (by simp [ByteArray.size];exact hlt)]
  have:=(List.getElem?_eq_some_iff.1 hc).2
  rw [<- this];rfl
 refine Does.val (v:=.int .u8 c.toNat) (w':=w) ?_ (PPost.val hS (by unfold AV.Rep DV.Rep;rfl))
 simp [execOp,ho,Instr.index,e1,e2,asIntOf,run_underlying hT,h0,hget]

end
end Go.Eng


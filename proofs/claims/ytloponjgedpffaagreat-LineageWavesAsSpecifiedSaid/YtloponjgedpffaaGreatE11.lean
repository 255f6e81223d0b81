/- Texts of this claim. -/
import Derived.Test.YtloponjgedpffaaGreatE10
set_option linter.all false
set_option linter.unusedSimpArgs false
set_option linter.unusedVariables false
namespace Go.Eng
open Go.RowKit

section
variable {P:Program} {o:Oper} {lk:Look} {n:Nat} {ev:Operand->AV} {K:AV->List Blk->List Hd->Prop}

theorem run_append_grows {t u ty e:TypeId} {d:TypeDesc} {i:TypeInfo} {z:Value} (ht:P.underlying t=some (.slice e)) (hu:P.underlying u=some d) (hd:d=.string\/∃ e',d=.slice e') (hi:P.info? e=some i) (hz:i.zero=some z)
  {w:World} {s x:Value} {a:Option Addr} {sLen sCap m:Nat} {olds news:Array Value} (hs:s=.slice a sLen sCap) (hlen:∀ w1:World,(Builtin.lenOf x).run P w1=.ok m w1)
  (holds:(Builtin.firstCells i.size sLen s).run P w.drew=.ok olds w.drew) (hnews:(Builtin.firstCells i.size m x).run P w.drew=.ok news w.drew)
  (hg:sCap < sLen + m) (hb:(sLen + m) * i.bytes <= 140737488355328) (h63:((sLen + m:Nat):Int) <= 9223372036854775807) :
  ∃ rest:Array Value,(Builtin.append_ #[t,u] ty #[s,x]).run P w=.ok (.slice (some ⟨w.heap.size,0,none⟩) (sLen + m) (grownCap w (sLen + m) sCap e))
    (w.drew.alloc (.cells (olds ++ news ++ rest) e))/\rest.size=(grownCap w (sLen + m) sCap e - (sLen + m)) * z.cells.size:=by
 refine ⟨Builtin.zeroCells z.cells (grownCap w (sLen + m) sCap e - (sLen + m)),?_,size_zeroCells _ _⟩
 have hfit:=growslice_fits (bytes:=i.bytes) hg hb
 have hn:¬ (sLen + m <= sCap):=by omega
 have h63':¬ (((sLen + m:Nat):Int) > IntKind.i64.max):=by rw [IntKind.max_i64];omega
 have h48':¬ (Builtin.nextslicecap (sLen + m) sCap * i.bytes > 2 ^ 48):=by
  rw [show (2:Nat) ^ 48=281474976710656 from rfl];omega
 subst hs
 have h63'':¬ (9223372036854775807 < (sLen:Int) + (m:Int)/\i.bytes=0):=fun h=>by omega
 have h48'':¬ (281474976710656 < Builtin.nextslicecap (sLen + m) sCap * i.bytes):=by omega
 rcases hd with rfl | ⟨e',rfl⟩
 ·simp [Builtin.append_,sizeOf,typeInfo,zeroValue,run_underlying ht,run_underlying hu,hi,hz,hlen,Question.forced,newRow,grownCap]
  rw [if_neg hn,if_neg h63'',if_neg h48'',holds]
  simp [hnews]
 ·simp [Builtin.append_,sizeOf,typeInfo,zeroValue,run_underlying ht,run_underlying hu,hi,hz,hlen,Question.forced,newRow,grownCap]
  rw [if_neg hn,if_neg h63'',if_neg h48'',holds]
  simp [hnews]

theorem run_append_none {t u ty e:TypeId} {d:TypeDesc} {i:TypeInfo} (ht:P.underlying t=some (.slice e)) (hu:P.underlying u=some d) (hd:d=.string\/∃ e',d=.slice e') (hi:P.info? e=some i)
  {w:World} {x:Value} {a:Option Addr} {sLen sCap:Nat} (hlen:∀ w1:World,(Builtin.lenOf x).run P w1=.ok 0 w1) (hnews:(Builtin.firstCells i.size 0 x).run P w=.ok #[] w) (hle:sLen <= sCap) :
  (Builtin.append_ #[t,u] ty #[.slice a sLen sCap,x]).run P w=.ok (.slice a sLen sCap) w:=by
 rcases hd with rfl | ⟨e',rfl⟩
 ·simp [Builtin.append_,sizeOf,typeInfo,run_underlying ht,run_underlying hu,hi,hlen,hle,hnews]
  cases a <;> simp [storeCells]
 ·simp [Builtin.append_,sizeOf,typeInfo,run_underlying ht,run_underlying hu,hi,hlen,hle,hnews]
  cases a <;> simp [storeCells]

theorem Sim.nilRowL {G:Gh} {m:HM} {lk:Look} {n:Nat} {w:World} (hS:Sim G m lk w) (hn:m (.O n)=none) (k:Nat):Sim G (hmSet m (.O n) .none) (lkN lk n [.row true k []]) w:=by
 have hlk:∀ x,lkN lk n [.row true k []] x=if x=.O n then some (.row true k []) else lk x:=fun x=>by
  unfold lkN
  cases x with
  | B j=>simp
  | O j =>
   by_cases e:j=n
   ·subst e;simp
   ·have e1:¬ (n <= j/\j < n + [Blk.row true k []].length):=by simp;omega
    simp only [e1,if_false,Hd.O.injEq,e]
 have hle:HM.le m (hmSet m (.O n) .none):=fun x loc hx=>by
  unfold hmSet
  by_cases e:x=.O n
  ·rw [e,hn] at hx;cases hx
  ·rw [if_neg e];exact .inl (.inl hx)
 have get:∀ {x loc},hmSet m (.O n) .none x=some loc->(x=.O n/\loc=.none)\/(x ≠ .O n/\m x=some loc):=fun {x loc} hx=>by
  unfold hmSet at hx
  split at hx
  ·cases hx;exact .inl ⟨‹_›,rfl⟩
  ·exact .inr ⟨‹_›,hx⟩
 refine ⟨fun x b sz hx=>?_,fun x hx=>?_,fun x y b l l' hx hy hb hb'=>?_,hS.gh,fun x hx=>?_,hS.gl,fun x b sz fp hx=>?_⟩
 ·rcases get hx with ⟨_,h⟩ | ⟨e,h⟩
  ·cases h
  ·obtain ⟨bl,h1,h2⟩:=hS.blk x b sz h
   exact ⟨bl,by rw [hlk,if_neg e];exact h1,h2.mono (Gh.le.refl G) hle (fun _=>rfl) rfl⟩
 ·rcases get hx with ⟨e,_⟩ | ⟨e,h⟩
  ·exact ⟨true,k,by rw [hlk,if_pos e]⟩
  ·obtain ⟨mt,k',h1⟩:=hS.nil x h
   exact ⟨mt,k',by rw [hlk,if_neg e];exact h1⟩
 ·rcases get hx with ⟨_,rfl⟩ | ⟨_,h⟩
  ·cases hb
  ·rcases get hy with ⟨_,rfl⟩ | ⟨_,h'⟩
   ·cases hb'
   ·exact hS.injG x y _ _ _ h h' hb hb'
 ·rcases get hx with ⟨_,h⟩ | ⟨e,h⟩
  ·cases h
  ·rw [hlk,if_neg e];exact hS.dead x h
 ·rcases get hx with ⟨_,h⟩ | ⟨e,h⟩
  ·cases h
  ·obtain ⟨bl,h1,h2⟩:=hS.blkx x b sz fp h
   exact ⟨bl,by rw [hlk,if_neg e];exact h1,h2.mono (Gh.le.refl G) hle (fun _ _ _=>rfl) (fun _ _=>rfl) (KeepIt.refl _ _)⟩

theorem ps_app {c:Call} {x y:Operand} {t u e:TypeId} {d:TypeDesc} {i:TypeInfo} (ho:o.op=.call c) (hc:c.callee=.builtin .append) (ha:c.args.toList=[x,y]) (hta:c.argTypes.toList=[t,u])
  (ht:P.underlying t=some (.slice e)) (hu:P.underlying u=some d) (hd:d=.string\/∃ e',d=.slice e') (hi:P.info? e=some i) (hz:i.zero.any (fun z=>z.cells.size == i.size)=true) (hbytes:0 < i.bytes)
  (h:pstep P lk n ev (.app i.size i.bytes x y) K):PS P o (.app i.size i.bytes x y) lk n ev K:=by
 obtain ⟨z,hz,hz'⟩:=(Option.any_eq_true _ _).1 hz
 have hz':z.cells.size=i.size:=by simpa using hz'
 obtain ⟨es,hx,ys,hy,hu1,hu2,hb,h⟩:=h
 have ha':c.args=#[x,y]:=by rw [<- Array.toArray_toList (xs:=c.args),ha]
 have ht':c.argTypes=#[t,u]:=by rw [<- Array.toArray_toList (xs:=c.argTypes),hta]
 have hexec:∀ (ρ:Operand->Value) (v:Value) (w w':World),(Builtin.append_ #[t,u] o.type #[ρ x,ρ y]).run P w=.ok v w'->(execOp ρ o).run P w=.ok (.value v) w':=fun ρ v w w' h=>by
  simp only [execOp,ho,resolve,hc,ha',ht',invoke,builtin,Sem.run_bind,Sem.run_pure,Result.andThen_ok]
  simp [h]
 split at h
 · -- nothing is added
  rename_i hnil
  obtain ⟨hnil,_⟩:=hnil
  refine ⟨_,_,_,h,by first | exact fun _=>⟨rfl,rfl⟩ | (intro hh;cases hh),(by intro h hh;first | (cases hh;done) | exact (List.mem_filter.1 hh).2 | (split at hh <;> first | exact (List.mem_filter.1 hh).2 | cases hh)),fun G m w ρ _ lk2 hls hS hev _=>?_⟩
  have hrx:=evr hev hx (by simp [ROp.operands])
  have hry:=hev y (by simp [ROp.operands])
  obtain ⟨c1,vs,c2,c3,c4⟩:=content_run (P:=P) hS (hls rfl).row hry hy hu2
  subst hnil
  have hvs:vs=[]:=by simpa using c2
  subst hvs
  have hrx':=hrx
  unfold AV.Rep at hrx'
  obtain ⟨_,a,hv⟩:=hrx'
  refine Does.val (hexec ρ (ρ x) w w ?_) (PPost.val hS hrx)
  rw [hv]
  exact run_append_none ht hu hd hi (by simpa using c1) (by simpa using c3 w rfl) (Nat.le_refl _)
 ·rename_i hne0
  by_cases hys:ys=[]
  ·have hes:es=[]:=Decidable.byContradiction fun q=>hne0 ⟨hys,q⟩
   subst hys hes
   refine ⟨_,_,_,h,by first | exact fun _=>⟨rfl,rfl⟩ | (intro hh;cases hh),(by intro h hh;first | (cases hh;done) | exact (List.mem_filter.1 hh).2 | (split at hh <;> first | exact (List.mem_filter.1 hh).2 | cases hh)),fun G m w ρ _ lk2 hls hS hev hn=>?_⟩
   have hrx:=evr hev hx (by simp [ROp.operands])
   have hry:=hev y (by simp [ROp.operands])
   obtain ⟨c1,vs,c2,c3,c4⟩:=content_run (P:=P) hS (hls rfl).row hry hy hu2
   have hvs:vs=[]:=by simpa using c2
   subst hvs
   unfold AV.Rep at hrx
   obtain ⟨_,a,hv⟩:=hrx
   have hn0:m (.O n)=none:=by simpa using hn 0 (by simp)
   refine Does.val (hexec ρ (ρ x) w w ?_) (PPost.of_frz hS (fun G1 hle1 hS1=>?_))
   ·rw [hv]
    exact run_append_none ht hu hd hi (by simpa using c1) (by simpa using c3 w rfl) (Nat.le_refl _)
   ·refine ⟨G1,hmSet m (.O n) .none,by rw [lkF_nil];exact hS1.nilRowL hn0 _,?_,Fr.refl _ _ _ _,fun hd hhd=>?_,fun j b sz hj he hbl=>?_⟩
    ·rw [hv]
     unfold AV.Rep
     exact ⟨rfl,.none,by unfold hmSet;rw [if_pos rfl],fun _=>.inl ⟨a,rfl,rfl⟩⟩
    ·unfold hmSet
     rw [if_neg (by simpa using hhd 0 (by simp))]
    ·have hj0:j=0:=by simpa using hj
     subst hj0
     unfold hmSet at he
     rw [if_pos (by simp)] at he
     cases he
     cases hbl
  have hne:=hys
  refine ⟨_,_,_,h,by first | exact fun _=>⟨rfl,rfl⟩ | (intro hh;cases hh),(by intro h hh;first | (cases hh;done) | exact (List.mem_filter.1 hh).2 | (split at hh <;> first | exact (List.mem_filter.1 hh).2 | cases hh)),fun G m w ρ _ lk2 hls hS hev hn=>?_⟩
  have hrx:=evr hev hx (by simp [ROp.operands])
  have hry:=hev y (by simp [ROp.operands])
  have hrx':=hrx
  unfold AV.Rep at hrx'
  obtain ⟨hL,a,hv⟩:=hrx'
  obtain ⟨_,os,o2,o3,o4⟩:=content_run (P:=P) (lk:=lk) (y:=.fl es) hS (hls rfl).row hrx (by unfold AV.content;rfl) hu1
  obtain ⟨c1,vs,c2,c3,c4⟩:=content_run (P:=P) hS (hls rfl).row hry hy hu2
  have hpos2:0 < ys.length:=List.length_pos_iff.2 hne
  have hfits:es.length + ys.length <= 9223372036854775807:=by
   have:=Nat.le_mul_of_pos_right (es.length + ys.length) hbytes
   omega
  obtain ⟨rest,hrun,hrest⟩:=run_append_grows (ty:=o.type) ht hu hd hi hz hv c1 (o3 w.drew rfl) (c3 w.drew rfl) (by omega) hb (by omega)
  refine Does.val (hexec ρ _ w _ hrun) ?_
  refine PPost.of_drew (PPost.of_frz hS.drew (fun G1 hle1 hS1=>?_))
  have hge:=grownCap_ge w (es.length + ys.length) es.length e
  have hsz:(os.toArray ++ vs.toArray ++ rest).size=grownCap w (es.length + ys.length) es.length e * i.size:=by
   simp only [Array.size_append,List.size_toArray,o2,c2,hrest,hz']
   rw [<- Nat.add_mul,<- Nat.add_mul]
   congr 1;omega
  refine PPost.new hS1 (by simpa using hn 0 (by simp)) _ _ _ (fun m' hm'=>?_) (fun m' hm' hmn=>?_)
  ·unfold BlkRep
   refine ⟨_,e,heap_alloc_new _ _,rfl,?_,?_,fun o=>Gh_new hS1 (Nat.le_refl _) o⟩
   ·rw [hsz,List.length_append];exact Nat.mul_le_mul_right _ hge
   ·refine DV.rows_append (o4 G1 _ 0 hle1 (fun j hj=>?_)) (c4 G1 _ _ hle1 (fun j hj=>?_))
    ·rw [Nat.zero_add,<- Array.getElem?_toList]
     simp only [Array.toList_append]
     rw [List.append_assoc,List.getElem?_append_left (by simpa using hj)]
    ·rw [<- Array.getElem?_toList]
     simp only [Array.toList_append]
     rw [List.append_assoc,List.getElem?_append_right (by simp [o2]),List.getElem?_append_left (by simp [o2];omega)]
     congr 1
     simp [o2]
  ·unfold AV.Rep
   refine ⟨rfl,_,hmn,fun _=>.inr ⟨_,_,grownCap w (es.length + ys.length) es.length e,rfl,?_,hge,?_⟩⟩
   ·simp
   ·rw [hsz];simp

theorem run_eqFields (w:World) {G:Gh} {m:HM} (dep:Nat) (xs ys:Array Value):∀ (fs:List Field) (j:Nat) (kds:List Nat) (as bs:List AV) (b:Bool),plainFields P fs j=some kds ->
  AV.RepL G m as (xs.toList.drop j)->AV.RepL G m bs (ys.toList.drop j)->sameCells kds as bs=some b->(Op.eqFields (dep + 1) xs ys fs).run P w=.ok b w
 | [],j,kds,as,bs,b,hp,ha,hb,h=>by
  unfold plainFields at hp
  cases hp
  cases as <;> cases bs <;> simp [sameCells] at h
  subst h
  simp [Op.eqFields]
 | f :: fs,j,kds,as,bs,b,hp,ha,hb,h=>by
  unfold plainFields at hp
  split at hp
  case isFalse=>cases hp
  rename_i hf
  obtain ⟨hname,hoff⟩:=hf
  cases hr:plainFields P fs (j + 1) with
  | none=>rw [hr] at hp;split at hp <;> simp_all
  | some r =>
   rw [hr] at hp
   have key:∀ (kd:Nat) (d:TypeDesc),P.underlying f.type=some d->(match d with | .bool=>kd=0 | .int _=>kd=1 | .string=>kd=2 | _=>False)->kds=kd :: r->(Op.eqFields (dep + 1) xs ys (f :: fs)).run P w=.ok b w:=fun kd d hd hk hkds=>by
    subst hkds
    match as,bs,h with
    | .D x :: as,.D y :: bs,h =>
     unfold sameCells at h
     cases h1:DV.same kd x y with
     | none=>rw [h1] at h;simp at h
     | some p =>
      cases h2:sameCells r as bs with
      | none=>rw [h1,h2] at h;simp at h
      | some q =>
       rw [h1,h2] at h
       simp only [Option.some.injEq] at h
       unfold AV.RepL at ha hb
       obtain ⟨u,us,ha1,ha2,ha3⟩:=ha
       obtain ⟨v,vs,hb1,hb2,hb3⟩:=hb
       have hxu:xs[j]?=some u:=by
        have:=congrArg (·[0]?) ha1
        simpa using this
       have hyv:ys[j]?=some v:=by
        have:=congrArg (·[0]?) hb1
        simpa using this
       have hus:xs.toList.drop (j + 1)=us:=by rw [<- List.drop_drop,ha1];rfl
       have hvs:ys.toList.drop (j + 1)=vs:=by rw [<- List.drop_drop,hb1];rfl
       have hagg:isAggD d=false:=by cases d <;> first | rfl | exact hk.elim
       have hpart:∀ (zs:Array Value) (v:Value),zs[j]?=some v->(part f.type zs f.offset).run P w=.ok v w:=fun zs v hz=>by
        simp [part,run_isAgg hd,hagg,hoff,hz]
       have heq:(Op.equalIn (dep + 1) f.type u v).run P w=.ok p w:=by
        unfold AV.Rep at ha2 hb2
        cases x <;> cases y <;> simp [DV.same] at h1
        ·unfold DV.Rep at ha2 hb2
         obtain ⟨rfl,rfl⟩:=h1
         subst ha2;subst hb2
         cases d <;> simp at hk
         exact run_equalIn_bool' w dep f.type _ _ hd
        ·unfold DV.Rep at ha2 hb2
         obtain ⟨⟨rfl,rfl⟩,rfl⟩:=h1
         subst ha2;subst hb2
         cases d <;> simp at hk
         exact run_equalIn_int w dep f.type _ _ _ _ hd
        ·unfold DV.Rep at ha2 hb2
         obtain ⟨rfl,rfl⟩:=h1
         subst ha2;subst hb2
         cases d <;> simp at hk
         rw [run_equalIn_string w dep f.type _ _ hd]
         simp [ByteArray.toList_eq]
       have ih:=run_eqFields w dep xs ys fs (j + 1) r as bs q hr (by rw [hus];exact ha3) (by rw [hvs];exact hb3) h2
       simp only [Op.eqFields,ne_eq,hname,not_false_eq_true,if_true,Sem.run_bind,hpart xs u hxu,hpart ys v hyv,Result.andThen_ok,heq]
       cases p
       ·simp only [Bool.not_false,if_true,Sem.run_pure]
        rw [<- h];rfl
       ·simp only [Bool.not_true,Bool.false_eq_true,if_false]
        rw [ih,<- h];rfl
   split at hp
   ·rename_i hd _;cases hp;exact key 0 _ hd rfl (by simp_all)
   ·rename_i hd _;cases hp;exact key 1 _ hd rfl (by simp_all)
   ·rename_i hd _;cases hp;exact key 2 _ hd rfl (by simp_all)
   ·cases hp

theorem ps_eqs {op:BinOp} {T yT:TypeId} {x y:Operand} {fs:Array Field} {kds:List Nat} (ho:o.op=.binOp op T x y yT) (hT:P.underlying T=some (.struct fs)) (hc1:P.eqGuardType P.depth T=false) (hc2:P.stoodInHeld T=false) (hc3:opEq op=true) (hkds:plainFields P fs.toList 0=some kds) (h:pstep P lk n ev (.eqs (opNeq op) kds x y) K):PS P o (.eqs (opNeq op) kds x y) lk n ev K:=by
 obtain ⟨xs,ys,b,hx,hy,hb,hK⟩:=h
 have hops:op=.eql\/op=.neq:=by cases op <;> simp [opEq] at hc3 |-
 refine ⟨_,_,_,hK,by first | exact fun _=>⟨rfl,rfl⟩ | (intro hh;cases hh),(by intro h hh;first | (cases hh;done) | exact (List.mem_filter.1 hh).2 | (split at hh <;> first | exact (List.mem_filter.1 hh).2 | cases hh)),fun G m w ρ _ lk2 hls hS hev _=>?_⟩
 have h1:=evr hev hx (by simp [ROp.operands])
 have h2:=evr hev hy (by simp [ROp.operands])
 unfold AV.Rep at h1 h2
 obtain ⟨us,hu,hus⟩:=h1
 obtain ⟨vs,hv,hvs⟩:=h2
 have hT':P.underlying T=some (.struct (P.fieldsOf T)):=by simp [Program.fieldsOf,hT]
 have hfs:P.fieldsOf T=fs:=by simp [Program.fieldsOf,hT]
 have hrun:(Op.equalIn 10000 T (.agg us) (.agg vs)).run P w=.ok b w:=by
  rw [run_equalIn_struct w 9999 T us vs hT' hc2,hfs]
  exact run_eqFields w 9998 us vs fs.toList 0 kds xs ys b hkds (by simpa using hus) (by simpa using hvs) hb
 refine Does.val (v:=.bool (if opNeq op=true then !b else b)) (w':=w) ?_ (PPost.val hS (by unfold AV.Rep DV.Rep;rfl))
 rcases hops with rfl | rfl
 ·simp only [execOp,ho,hu,hv,Sem.run_bind,run_eqGuard_agg w _ _ _ _ _ _ hc1,Result.andThen_ok,run_eql_struct,hrun,Sem.run_pure];rfl
 ·simp only [execOp,ho,hu,hv,Sem.run_bind,run_eqGuard_agg w _ _ _ _ _ _ hc1,Result.andThen_ok,run_neq_struct,hrun,Sem.run_pure];rfl

end
end Go.Eng


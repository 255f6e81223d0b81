/- Texts of this claim. -/
import Derived.Test.YtkfcmelpadbdcaaGreatDoorE11b
import Derived.Lib.ConvBytes
import Derived.WideLaws
set_option linter.all false
set_option linter.unusedSimpArgs false
set_option linter.unusedVariables false
namespace Go.Eng
open Go.RowKit
def SameV (kd:Nat) (x y:Value) (p:Bool):Prop :=
 (kd=0/\∃ a b,x=.bool a/\y=.bool b/\p=(a == b))\/(kd=1/\∃ k a b,x=.int k a/\y=.int k b/\p=(a == b))\/(kd=2/\∃ a b:List UInt8,x=.string ⟨a.toArray⟩/\y=.string ⟨b.toArray⟩/\p=(a == b))
inductive EqV:List Sh->List Value->List Value->Bool->Prop
 | nil:EqV [] [] [] true
 | s {kd:Nat} {r:List Sh} {x y:Value} {xs ys:List Value} {p q:Bool}:SameV kd x y p->EqV r xs ys q->EqV (.s kd :: r) (x :: xs) (y :: ys) (p && q)
 | a {k:IntKind} {m:Nat} {r:List Sh} {p q:List Int} {xs ys:List Value} {b:Bool}:p.length=m->q.length=m->EqV r xs ys b->EqV (.a k m :: r) (p.map (.int k) ++ xs) (q.map (.int k) ++ ys) (p == q && b)
theorem RepL_take {G:Gh} {m:HM}:∀ (n:Nat) (as:List AV) (vs:List Value),AV.RepL G m as vs->AV.RepL G m (as.take n) (vs.take n)/\AV.RepL G m (as.drop n) (vs.drop n)
 | 0,as,vs,h=>by simp only [List.take_zero,List.drop_zero];exact ⟨by unfold AV.RepL;rfl,h⟩
 | n + 1,[],vs,h=>by
  unfold AV.RepL at h;subst h
  simp only [List.take_nil,List.drop_nil]
  exact ⟨by unfold AV.RepL;rfl,by unfold AV.RepL;rfl⟩
 | n + 1,a :: as,vs,h=>by
  unfold AV.RepL at h
  obtain ⟨v,vs',rfl,h1,h2⟩:=h
  obtain ⟨h3,h4⟩:=RepL_take n as vs' h2
  simp only [List.take_succ_cons,List.drop_succ_cons]
  refine ⟨?_,h4⟩
  unfold AV.RepL
  exact ⟨v,_,rfl,h1,h3⟩
theorem same_rep {G:Gh} {m:HM} {kd:Nat} {x y:DV} {p:Bool} {u v:Value} (h:DV.same kd x y=some p) (hu:AV.Rep G m (.D x) u) (hv:AV.Rep G m (.D y) v):SameV kd u v p:=by
 unfold AV.Rep at hu hv
 cases x <;> cases y <;> simp only [DV.same] at h <;> try (cases h;done)
 all_goals (rw [Option.ite_none_right_eq_some] at h;unfold DV.Rep at hu hv;obtain ⟨h1,h2⟩:=h;cases h2;subst hu;subst hv)
 ·exact .inl ⟨h1,_,_,rfl,rfl,rfl⟩
 ·obtain ⟨h1,rfl⟩:=h1;exact .inr (.inl ⟨h1,_,_,_,rfl,rfl,rfl⟩)
 ·exact .inr (.inr ⟨h1,_,_,rfl,rfl,rfl⟩)
theorem eqSh_rep {G:Gh} {m:HM}:∀ {sh:List Sh} {xs ys:List AV} {b:Bool} {us vs:List Value},eqSh sh xs ys=some b->AV.RepL G m xs us->AV.RepL G m ys vs->EqV sh us vs b
 | [],xs,ys,b,us,vs,h,hu,hv=>by
  cases xs <;> cases ys <;> simp only [eqSh] at h <;> cases h
  unfold AV.RepL at hu hv
  subst hu;subst hv;exact .nil
 | .s kd :: r,xs,ys,b,us,vs,h,hu,hv=>by
  unfold eqSh at h
  split at h
  ·rename_i e;cases e
  ·rename_i kd' r' x xs' y ys' e1
   cases e1
   split at h
   ·rename_i p q h1 h2
    cases h
    unfold AV.RepL at hu hv
    obtain ⟨u,us',rfl,a1,a2⟩:=hu
    obtain ⟨v,vs',rfl,b1,b2⟩:=hv
    exact .s (same_rep h1 a1 b1) (eqSh_rep h2 a2 b2)
   ·cases h
  ·rename_i e;cases e
  ·cases h
 | .a k n :: r,xs,ys,b,us,vs,h,hu,hv=>by
  unfold eqSh at h
  split at h
  ·rename_i p q b' h1 h2 h3
   rw [Option.ite_none_right_eq_some] at h
   obtain ⟨⟨l1,l2⟩,h⟩:=h
   cases h
   obtain ⟨a1,a2⟩:=RepL_take n _ _ hu
   obtain ⟨b1,b2⟩:=RepL_take n _ _ hv
   have e1:=intsL_rep h1 a1
   have e2:=intsL_rep h2 b1
   rw [<- List.take_append_drop n us,<- List.take_append_drop n vs,e1,e2]
   exact .a l1 l2 (eqSh_rep h3 a2 b2)
  ·cases h
theorem take_app' {A B:List Value} {m k:Nat} (h:A.length=m):(A ++ B).take (m + k)=A ++ B.take k:=by
 subst h;rw [List.take_append,List.take_of_length_le (Nat.le_add_right _ _),Nat.add_sub_cancel_left]
theorem drop_app' {A B:List Value} {m k:Nat} (h:A.length=m):(A ++ B).drop (m + k)=B.drop k:=by
 subst h;rw [List.drop_append,List.drop_of_length_le (Nat.le_add_right _ _),Nat.add_sub_cancel_left];rfl
theorem EqV.len:∀ {sh:List Sh} {us vs:List Value} {b:Bool},EqV sh us vs b->us.length=shLen sh/\vs.length=shLen sh
 | _,_,_,_,.nil=>⟨rfl,rfl⟩
 | _,_,_,_,.s _ h=>by
  obtain ⟨h1,h2⟩:=h.len
  simp only [List.length_cons,shLen,Sh.len];omega
 | _,_,_,_,.a h1 h2 h=>by
  obtain ⟨h3,h4⟩:=h.len
  simp only [List.length_append,List.length_map,shLen,Sh.len];omega
theorem EqV.split:∀ {s1 s2:List Sh} {us vs:List Value} {b:Bool},EqV (s1 ++ s2) us vs b->∃ b1 b2,EqV s1 (us.take (shLen s1)) (vs.take (shLen s1)) b1/\EqV s2 (us.drop (shLen s1)) (vs.drop (shLen s1)) b2/\b=(b1 && b2)
 | [],s2,us,vs,b,h=>⟨true,b,by simp only [shLen,List.take_zero];exact .nil,by rw [List.nil_append] at h;simpa only [shLen,List.drop_zero] using h,by simp⟩
 | x :: s1,s2,us,vs,b,h=>by
  rw [List.cons_append] at h
  cases h with
  | s h1 h2 =>
   obtain ⟨b1,b2,a1,a2,rfl⟩:=h2.split
   refine ⟨_ && b1,b2,?_,?_,by rw [Bool.and_assoc]⟩
   ·simp only [shLen,Sh.len,Nat.add_comm 1,List.take_succ_cons];exact .s h1 a1
   ·simp only [shLen,Sh.len,Nat.add_comm 1,List.drop_succ_cons];exact a2
  | a h1 h2 h3 =>
   rename_i k m p q xs ys b'
   obtain ⟨b1,b2,a1,a2,rfl⟩:=h3.split
   have e1:(p.map (Value.int k)).length=m:=by simp [h1]
   have e2:(q.map (Value.int k)).length=m:=by simp [h2]
   refine ⟨p == q && b1,b2,?_,?_,by rw [Bool.and_assoc]⟩
   ·simp only [shLen,Sh.len]
    rw [take_app' e1,take_app' e2]
    exact .a h1 h2 a1
   ·simp only [shLen,Sh.len]
    rw [drop_app' e1,drop_app' e2]
    exact a2
theorem shLen_app:∀ (l1 l2:List Sh),shLen (l1 ++ l2)=shLen l1 + shLen l2
 | [],l2=>by simp [shLen]
 | x :: l1,l2=>by simp [shLen,shLen_app l1 l2,Nat.add_assoc]
def Pk (P:Program) (t:TypeId) (us:List Value) (v:Value):Prop:=∃ d,P.underlying t=some d/\((isAggD d=true/\v=.agg us.toArray)\/(isAggD d=false/\us=[v]))
section
variable {P:Program} {w:World}
theorem run_part_pk {t:TypeId} {i:TypeInfo} {zs:Array Value} {off:Nat} (hi:P.info? t=some i) (hl:off + P.cellsOf t <= zs.size) (hd:(∃ d,P.underlying t=some d/\(isAggD d=false->P.cellsOf t=1))) :
  ∃ v,(part t zs off).run P w=.ok v w/\Pk P t ((zs.toList.drop off).take (P.cellsOf t)) v:=by
 obtain ⟨d,hd,h1⟩:=hd
 cases ha:isAggD d
 ·have h1:=h1 ha
  have hz:zs[off]?=some zs[off]:=Array.getElem?_eq_getElem (by omega)
  refine ⟨zs[off],by simp [part,run_isAgg hd,ha,hz],d,hd,.inr ⟨ha,?_⟩⟩
  rw [h1,List.take_one,List.head?_drop,Array.getElem?_toList,hz];rfl
 ·refine ⟨.agg (zs.extract off (off + P.cellsOf t)),by simp [part,run_isAgg hd,ha,run_sizeOf w hi],d,hd,.inl ⟨ha,?_⟩⟩
  congr 1
  apply Array.toList_inj.1
  rw [Array.toList_extract]
  simp [List.extract]
theorem run_eqItems_sh {d:Nat} {e:TypeId} {i:TypeInfo} {l:List Sh} (hi:P.info? e=some i) (hl:shLen l=P.cellsOf e) (hd:(∃ d,P.underlying e=some d/\(isAggD d=false->P.cellsOf e=1))) (xs ys:Array Value)
  (ih:∀ (us vs:List Value) (u v:Value) (b:Bool),EqV l us vs b->Pk P e us u->Pk P e vs v->(Op.equalIn d e u v).run P w=.ok b w) :
  ∀ (m j:Nat) (b:Bool),EqV (List.replicate m l).flatten (xs.toList.drop (j * P.cellsOf e)) (ys.toList.drop (j * P.cellsOf e)) b->(Op.eqItems d e (P.cellsOf e) xs ys (List.range' j m)).run P w=.ok b w
 | 0,j,b,h=>by
  simp only [List.replicate_zero,List.flatten_nil] at h
  generalize xs.toList.drop (j * P.cellsOf e)=us at h
  generalize ys.toList.drop (j * P.cellsOf e)=vs at h
  cases h
  simp [Op.eqItems]
 | m + 1,j,b,h=>by
  rw [List.replicate_succ,List.flatten_cons] at h
  have hlen:=h.len
  simp only [List.length_drop,Array.length_toList] at hlen
  obtain ⟨b1,b2,h1,h2,rfl⟩:=h.split
  rw [hl] at h1 h2
  rw [List.drop_drop,List.drop_drop,<- Nat.succ_mul] at h2
  rw [shLen_app,hl] at hlen
  rcases Nat.eq_zero_or_pos (P.cellsOf e) with hz | hz
  ·obtain ⟨d0,hd0,h10⟩:=hd
   have ha:isAggD d0=true:=by
    cases ha:isAggD d0
    ·have:=h10 ha;omega
    ·rfl
   have hp:∀ zs:Array Value,(part e zs (j * P.cellsOf e)).run P w=.ok (.agg (zs.extract (j * P.cellsOf e) (j * P.cellsOf e + P.cellsOf e))) w:=fun zs=>by simp [part,run_isAgg hd0,ha,run_sizeOf w hi]
   have hk:∀ zs:Array Value,Pk P e ((zs.toList.drop (j * P.cellsOf e)).take (P.cellsOf e)) (.agg (zs.extract (j * P.cellsOf e) (j * P.cellsOf e + P.cellsOf e))):=fun zs=>⟨d0,hd0,.inl ⟨ha,by
    congr 1
    apply Array.toList_inj.1
    rw [Array.toList_extract]
    simp [List.extract]⟩⟩
   simp only [List.range'_succ,Op.eqItems,Sem.run_bind,hp,Result.andThen_ok,ih _ _ _ _ _ h1 (hk xs) (hk ys)]
   have hr:=run_eqItems_sh hi hl ⟨d0,hd0,h10⟩ xs ys ih m (j + 1) b2 h2
   cases b1
   ·simp
   ·simpa using hr
  ·obtain ⟨u,p1,p2⟩:=run_part_pk (w:=w) (zs:=xs) (off:=j * P.cellsOf e) hi (by omega) hd
   obtain ⟨v,q1,q2⟩:=run_part_pk (w:=w) (zs:=ys) (off:=j * P.cellsOf e) hi (by omega) hd
   simp only [List.range'_succ,Op.eqItems,Sem.run_bind,p1,q1,Result.andThen_ok,ih _ _ _ _ _ h1 p2 q2]
   have hr:=run_eqItems_sh hi hl hd xs ys ih m (j + 1) b2 h2
   cases b1
   ·simp
   ·simpa using hr
theorem run_eqFields_sh {d:Nat} {f:TypeId->Option (List Sh)} (xs ys:Array Value) :
  ∀ (fs:List Field) (off:Nat) (sh:List Sh) (b:Bool),shFields P f fs off=some sh->EqV sh (xs.toList.drop off) (ys.toList.drop off) b ->
  (∀ x ∈ fs,∀ l i,f x.type=some l->P.info? x.type=some i->shLen l=P.cellsOf x.type->(∃ d,P.underlying x.type=some d/\(isAggD d=false->P.cellsOf x.type=1))/\∀ (us vs:List Value) (u v:Value) (b:Bool),EqV l us vs b->Pk P x.type us u->Pk P x.type vs v->(Op.equalIn d x.type u v).run P w=.ok b w) ->
  (Op.eqFields d xs ys fs).run P w=.ok b w
 | [],off,sh,b,hs,h,_=>by
  unfold shFields at hs;cases hs
  generalize xs.toList.drop off=us at h
  generalize ys.toList.drop off=vs at h
  cases h
  simp [Op.eqFields]
 | x :: fs,off,sh,b,hs,h,ih=>by
  unfold shFields at hs
  split at hs
  ·cases hs
  ·rename_i hno
   split at hs
   ·rename_i l i l2 h1 h2 h3
    split at hs
    case isFalse=>cases hs
    rename_i hl
    cases hs
    have hname : x.name ≠ "_" := fun e => hno (.inl e)
    have hoff:x.offset=off:=Classical.byContradiction fun e=>hno (.inr e)
    have hlen:=h.len
    simp only [List.length_drop,Array.length_toList] at hlen
    obtain ⟨b1,b2,g1,g2,rfl⟩:=h.split
    rw [hl] at g1 g2
    rw [List.drop_drop,List.drop_drop] at g2
    obtain ⟨hd,ih1⟩:=ih x (by simp) l i h1 h2 hl
    have hr:=run_eqFields_sh xs ys fs (off + P.cellsOf x.type) l2 b2 h3 g2 fun y hy=>ih y (by simp [hy])
    rw [shLen_app,hl] at hlen
    have key:∃ u v,(part x.type xs x.offset).run P w=.ok u w/\(part x.type ys x.offset).run P w=.ok v w/\(Op.equalIn d x.type u v).run P w=.ok b1 w:=by
     rw [hoff]
     rcases Nat.eq_zero_or_pos (P.cellsOf x.type) with hz | hz
     ·obtain ⟨d0,hd0,h10⟩:=hd
      have ha:isAggD d0=true:=by
       cases ha:isAggD d0
       ·have:=h10 ha;omega
       ·rfl
      have hp:∀ zs:Array Value,(part x.type zs off).run P w=.ok (.agg (zs.extract off (off + P.cellsOf x.type))) w:=fun zs=>by simp [part,run_isAgg hd0,ha,run_sizeOf w h2]
      have hk:∀ zs:Array Value,Pk P x.type ((zs.toList.drop off).take (P.cellsOf x.type)) (.agg (zs.extract off (off + P.cellsOf x.type))):=fun zs=>⟨d0,hd0,.inl ⟨ha,by
       congr 1
       apply Array.toList_inj.1
       rw [Array.toList_extract]
       simp [List.extract]⟩⟩
      exact ⟨_,_,hp xs,hp ys,ih1 _ _ _ _ _ g1 (hk xs) (hk ys)⟩
     ·obtain ⟨u,p1,p2⟩:=run_part_pk (w:=w) (zs:=xs) (off:=off) h2 (by omega) hd
      obtain ⟨v,q1,q2⟩:=run_part_pk (w:=w) (zs:=ys) (off:=off) h2 (by omega) hd
      exact ⟨u,v,p1,q1,ih1 _ _ _ _ _ g1 p2 q2⟩
    obtain ⟨u,v,k1,k2,k3⟩:=key
    simp only [Op.eqFields,ne_eq,hname,not_false_eq_true,if_true,Sem.run_bind,k1,k2,Result.andThen_ok,k3]
    cases b1
    ·simp
    ·simpa using hr
   ·cases hs
theorem shOf_one:∀ {n:Nat} {t:TypeId} {l:List Sh},shOf P n t=some l->shLen l=P.cellsOf t->∃ d,P.underlying t=some d/\(isAggD d=false->P.cellsOf t=1)
 | 0,t,l,h,_=>by unfold shOf at h;cases h
 | n + 1,t,l,h,hl=>by
  unfold shOf at h
  split at h
  ·rename_i hd;cases h;exact ⟨_,hd,fun _=>hl.symm⟩
  ·rename_i hd;cases h;exact ⟨_,hd,fun _=>hl.symm⟩
  ·rename_i hd;cases h;exact ⟨_,hd,fun _=>hl.symm⟩
  ·rename_i hd;exact ⟨_,hd,fun e=>(by cases e)⟩
  ·rename_i hd;exact ⟨_,hd,fun e=>(by cases e)⟩
  ·cases h
theorem pk_agg {t:TypeId} {d:TypeDesc} {us:List Value} {v:Value} (hd:P.underlying t=some d) (ha:isAggD d=true) (h:Pk P t us v):v=.agg us.toArray:=by
 obtain ⟨d',h1,h2⟩:=h
 rw [hd] at h1;cases h1
 rcases h2 with ⟨_,h2⟩ | ⟨h2,_⟩
 ·exact h2
 ·rw [ha] at h2;cases h2
theorem pk_one {t:TypeId} {d:TypeDesc} {us:List Value} {v:Value} (hd:P.underlying t=some d) (ha:isAggD d=false) (h:Pk P t us v):us=[v]:=by
 obtain ⟨d',h1,h2⟩:=h
 rw [hd] at h1;cases h1
 rcases h2 with ⟨h2,_⟩ | ⟨_,h2⟩
 ·rw [ha] at h2;cases h2
 ·exact h2
theorem run_eqV:∀ (n:Nat) (t:TypeId) (sh:List Sh) (d:Nat) (us vs:List Value) (u v:Value) (b:Bool),shOf P n t=some sh->EqV sh us vs b->Pk P t us u->Pk P t vs v->n + 1 <= d->(Op.equalIn d t u v).run P w=.ok b w
 | 0,t,sh,d,us,vs,u,v,b,h,_,_,_,_=>by unfold shOf at h;cases h
 | n + 1,t,sh,0,us,vs,u,v,b,h,_,_,_,hn=>by omega
 | n + 1,t,sh,d + 1,us,vs,u,v,b,h,he,hu,hv,hn=>by
  unfold shOf at h
  split at h
  ·rename_i hd;cases h
   obtain rfl:=pk_one hd rfl hu
   obtain rfl:=pk_one hd rfl hv
   cases he with
   | s h1 h2 =>
    cases h2
    rcases h1 with ⟨_,a,b,rfl,rfl,rfl⟩ | ⟨e,_⟩ | ⟨e,_⟩
    ·rw [run_equalIn_bool' w d t _ _ hd];simp
    ·cases e
    ·cases e
  ·rename_i hd;cases h
   obtain rfl:=pk_one hd rfl hu
   obtain rfl:=pk_one hd rfl hv
   cases he with
   | s h1 h2 =>
    cases h2
    rcases h1 with ⟨e,_⟩ | ⟨_,k,a,b,rfl,rfl,rfl⟩ | ⟨e,_⟩
    ·cases e
    ·rw [run_equalIn_int w d t _ _ _ _ hd];simp
    ·cases e
  ·rename_i hd;cases h
   obtain rfl:=pk_one hd rfl hu
   obtain rfl:=pk_one hd rfl hv
   cases he with
   | s h1 h2 =>
    cases h2
    rcases h1 with ⟨e,_⟩ | ⟨e,_⟩ | ⟨_,a,b,rfl,rfl,rfl⟩
    ·cases e
    ·cases e
    ·rw [run_equalIn_string w d t _ _ hd];simp [ByteArray.toList_eq]
  ·rename_i m e hd
   obtain rfl:=pk_agg hd rfl hu
   obtain rfl:=pk_agg hd rfl hv
   split at h
   ·rename_i k i he' hi
    rw [Option.ite_none_right_eq_some] at h
    obtain ⟨hsz,h⟩:=h
    cases h
    cases he with
    | a h1 h2 h3 =>
     cases h3
     rename_i p q
     obtain ⟨d',rfl⟩:∃ k,d=k + 1:=⟨d - 1,by omega⟩
     rw [run_equalIn_array w (d' + 1) _ _ hd hi,show P.cellsOf e=1 by simp [Program.cellsOf,hi,hsz],run_eqInts (k:=k) d' he' _ _ p q (by simp) (by simp) w _ (fun i hi=>by rw [h1,h2];simpa using hi),all_range_eq h1 h2,Bool.and_true]
   ·rename_i d0 i hnot hd0 hi
    rw [Option.bind_eq_some_iff] at h
    obtain ⟨l,hl0,h⟩:=h
    rw [Option.ite_none_right_eq_some] at h
    obtain ⟨hl,h⟩:=h
    cases h
    rw [run_equalIn_array w d _ _ hd hi,List.range_eq_range']
    exact run_eqItems_sh hi hl (shOf_one hl0 hl) _ _ (fun us vs u v b h1 h2 h3=>run_eqV n e l d us vs u v b hl0 h1 h2 h3 (by omega)) m 0 b (by simpa using he)
   ·cases h
  ·rename_i fs hd
   rw [Option.ite_none_left_eq_some] at h
   obtain ⟨hst,h⟩:=h
   obtain rfl:=pk_agg hd rfl hu
   obtain rfl:=pk_agg hd rfl hv
   have hT':P.underlying t=some (.struct (P.fieldsOf t)):=by simp [Program.fieldsOf,hd]
   have hfs:P.fieldsOf t=fs:=by simp [Program.fieldsOf,hd]
   rw [run_equalIn_struct w d t _ _ hT' (by simpa using hst),hfs]
   exact run_eqFields_sh _ _ fs.toList 0 sh b h (by simpa using he) fun x _ l i hl0 hi hl=>⟨shOf_one hl0 hl,fun us vs u v b h1 h2 h3=>run_eqV n x.type l d us vs u v b hl0 h1 h2 h3 (by omega)⟩
  ·cases h
end
section
variable {P:Program} {o:Oper} {lk:Look} {n:Nat} {ev:Operand->AV} {K:AV->List Blk->List Hd->Prop}
theorem ps_eqg {op:BinOp} {T yT:TypeId} {x y:Operand} {sh:List Sh} (ho:o.op=.binOp op T x y yT) (hT:(∃ m e,P.underlying T=some (.array m e))\/∃ fs,P.underlying T=some (.struct fs))
  (hc1:P.eqGuardType P.depth T=false) (hc2:opEq op=true) (hsh:shOf P 100 T=some sh) (h:pstep P lk n ev (.eqg (opNeq op) sh x y) K):PS P o (.eqg (opNeq op) sh x y) lk n ev K:=by
 obtain ⟨xs,ys,b,hx,hy,hb,hK⟩:=h
 have hops:op=.eql\/op=.neq:=by cases op <;> simp [opEq] at hc2 |-
 refine ⟨_,_,_,hK,fun _=>⟨rfl,rfl⟩,(by intro h hh;cases hh),fun G m' w ρ _ lk2 hls hS hev _=>?_⟩
 have h1:=evr hev hx (by simp [ROp.operands])
 have h2:=evr hev hy (by simp [ROp.operands])
 unfold AV.Rep at h1 h2
 obtain ⟨us,hu,hus⟩:=h1
 obtain ⟨vs,hv,hvs⟩:=h2
 obtain ⟨d,hd,ha⟩:∃ d,P.underlying T=some d/\isAggD d=true:=by
  rcases hT with ⟨m,e,h⟩ | ⟨fs,h⟩
  ·exact ⟨_,h,rfl⟩
  ·exact ⟨_,h,rfl⟩
 have hrun:(Op.equalIn 10000 T (.agg us) (.agg vs)).run P w=.ok b w :=
  run_eqV 100 T sh 10000 us.toList vs.toList _ _ b hsh (eqSh_rep hb hus hvs) ⟨d,hd,.inl ⟨ha,by simp⟩⟩ ⟨d,hd,.inl ⟨ha,by simp⟩⟩ (by omega)
 refine Does.val (v:=.bool (if opNeq op=true then !b else b)) (w':=w) ?_ (PPost.val hS (by unfold AV.Rep DV.Rep;rfl))
 rcases hops with rfl | rfl
 ·simp only [execOp,ho,hu,hv,Sem.run_bind,run_eqGuard_agg w _ _ _ _ _ _ hc1,Result.andThen_ok,run_eql_struct,hrun,Sem.run_pure];rfl
 ·simp only [execOp,ho,hu,hv,Sem.run_bind,run_eqGuard_agg w _ _ _ _ _ _ hc1,Result.andThen_ok,run_neq_struct,hrun,Sem.run_pure];rfl
theorem PPost.data {G:Gh} {m:HM} {lk:Look} {n:Nat} {w w':World} (hS:Sim G m lk w) (vs:List Value) (h1:w'.os=w.os) (h2:TD w w') (h3:w'.output=w.output) (hsz:w.heap.size <= w'.heap.size)
  (hold:∀ j,j < w.heap.size->w'.heap[j]?=w.heap[j]?) (hnew:∀ j v,vs[j]?=some v->w'.cell? ⟨w.heap.size,j,none⟩=some v) {a:AV} {v:Value}
  (ha:∀ G',Gh.le G G'->(∀ j v,vs[j]?=some v->G' w.heap.size j=some v)->AV.Rep G' m a v):PPost G m lk n a [] [] w v w':=by
 let G':Gh:=fun b o=>if b=w.heap.size then vs[o]? else G b o
 have hle:Gh.le G G':=fun b o x hx=>by
  by_cases e:b=w.heap.size
  ·rw [Gh_new hS (Nat.le_of_eq e.symm) o] at hx;cases hx
  ·show (if b=w.heap.size then vs[o]? else G b o)=some x
   rw [if_neg e];exact hx
 have hne:∀ b,b ≠ w.heap.size->∀ o,G' b o=G b o:=fun b e o=>if_neg e
 refine ⟨G',m,⟨fun h b sz hm=>?_,?_,hS.injG,fun b o x hx=>?_,?_,hS.gl.mono hle,fun h b sz fp hm=>?_⟩,ha G' hle (fun j v hj=>by show (if w.heap.size=w.heap.size then vs[j]? else _)=_;rw [if_pos rfl];exact hj),⟨h1,h2,h3,hsz,fun b hb _=>hold b hb,fun b hb _ o=>hne b (by omega) o,hle⟩,fun _ _=>rfl,fun j _ _ hj=>by simp at hj⟩
 ·obtain ⟨bl,hl,hb⟩:=hS.blk h b sz hm
  have hlt:=hS.lt hm
  rw [lkN_nil,lkF_nil]
  exact ⟨bl,hl,hb.mono hle (HM.le.refl m) (hne b (by omega)) (hold b hlt)⟩
 ·rw [lkN_nil,lkF_nil];exact hS.nil
 ·by_cases e:b=w.heap.size
  ·subst e
   have hx:(if w.heap.size=w.heap.size then vs[o]? else G w.heap.size o)=some x:=hx
   rw [if_pos rfl] at hx
   exact hnew o x hx
  ·rw [hne b e o] at hx
   have hc:=hS.gh b o x hx
   have hlt:b < w.heap.size:=World.block_lt_of_cell? w _ hc
   unfold World.cell? at hc |-
   rw [hold b hlt];exact hc
 ·rw [lkN_nil,lkF_nil];exact hS.dead
 ·obtain ⟨bl,hl,hb⟩:=hS.blkx h b sz fp hm
  rw [lkN_nil,lkF_nil]
  exact ⟨bl,hl,hb.mono hle (HM.le.refl m) (fun c hc=>hne c (by have:=hb.lt c hc;omega)) (fun c hc=>hold c (hb.lt c hc)) (.all hold)⟩
theorem bytes_rep {G:Gh} {f:Nat->Option Value}:∀ (t:List UInt8) (o:Nat),(∀ j c,t[j]?=some c->f (o + j)=some (.int .u8 (c.toNat:Nat)))->DV.rows G f 1 o (t.map fun c=>[DV.I .u8 (c.toNat:Nat)])
 | [],_,_=>by unfold DV.rows;trivial
 | c :: t,o,h=>by
  rw [List.map_cons]
  unfold DV.rows
  refine ⟨rfl,?_,bytes_rep t (o + 1) fun j d hj=>?_⟩
  ·unfold DV.cells
   refine ⟨⟨_,h 0 c rfl,by unfold DV.Rep;rfl⟩,by unfold DV.cells;trivial⟩
  ·have:=h (j + 1) d hj
   rwa [show o + 1 + j=o + (j + 1) by omega]
theorem ps_cvB {src dst e:TypeId} {x:Operand} (ho:o.op=.convert src dst x) (hs:P.underlying src=some .string) (hd:P.underlying dst=some (.slice e)) (he:P.underlying e=some (.int .u8)) (h:pstep P lk n ev (.cvB x) K):PS P o (.cvB x) lk n ev K:=by
 obtain ⟨t,hx,hK⟩:=h
 refine ⟨_,_,_,hK,(by intro hh;cases hh),(by intro h hh;cases hh),fun G m w ρ _ lk2 _ hS hev _=>?_⟩
 have hr:=evr hev hx (by simp [ROp.operands])
 unfold AV.Rep DV.Rep at hr
 refine Does.val (v:=.slice (some ⟨w.heap.size,0,none⟩) (⟨t.toArray⟩:ByteArray).size (grownCap w (⟨t.toArray⟩:ByteArray).size 0 e)) (w':=Lib.bytesWorld w e ⟨t.toArray⟩) ?_ (PPost.data (w':=Lib.bytesWorld w e ⟨t.toArray⟩) hS (t.map fun c=>.int .u8 (c.toNat:Nat)) rfl ⟨rfl,Nat.le_succ _⟩ rfl (by rw [Lib.bytesWorld_size];omega) (fun j hj=>Lib.bytesWorld_at_old w e _ j hj) (fun j v hj=>?_) fun G' _ hG'=>?_)
 ·simp only [execOp,ho,hr,Sem.run_bind,Lib.run_convert_string_bytes w src dst e _ hs hd he,Result.andThen_ok,Sem.run_pure]
 ·rw [List.getElem?_map,Option.map_eq_some_iff] at hj
  obtain ⟨c,hc,rfl⟩:=hj
  have hlt:=(List.getElem?_eq_some_iff.1 hc).1
  rw [Lib.bytesWorld_cell w e _ j (by simpa [ByteArray.size] using hlt)]
  simp only [List.getD,hc];rfl
 ·unfold AV.Rep DV.Rep
  have h1:(⟨t.toArray⟩:ByteArray).size=t.length:=by simp [ByteArray.size]
  have h2:(t.map fun c=>[DV.I .u8 (c.toNat:Nat)]).length=t.length:=List.length_map _
  have h3:=grownCap_ge w (⟨t.toArray⟩:ByteArray).size 0 e
  refine ⟨some ⟨w.heap.size,0,none⟩,grownCap w (⟨t.toArray⟩:ByteArray).size 0 e,?_,?_,(fun h=>by cases h),fun _=>⟨w.heap.size,0,1,rfl,bytes_rep t 0 fun j c hj=>?_⟩⟩
  ·rw [h1,h2]
  ·rw [h2,<- h1];exact h3
  ·rw [Nat.zero_add]
   exact hG' j _ (by rw [List.getElem?_map,hj];rfl)
theorem ps_bsF {T k:Nat} {ps:Array (Nat × Operand)} {k0:Nat} {xs:List Operand} (ho:o.op=.buildSlice T k ps) (hr:resolveOp P o=some (.bslice k0 xs)) (h:pstep P lk n ev (.bsF k0 xs) K):PS P o (.bsF k0 xs) lk n ev K:=by
 simp only [resolveOp,ho] at hr
 split at hr
 case h_2=>cases hr
 rename_i e hT
 simp only [Option.bind_eq_some_iff] at hr
 obtain ⟨i,hi,hr⟩:=hr
 split at hr
 case isFalse=>cases hr
 rename_i hc
 cases hr
 simp only [Bool.and_eq_true,beq_iff_eq,decide_eq_true_eq] at hc
 obtain ⟨⟨⟨hc1,hc2⟩,hc3⟩,hc4⟩:=hc
 obtain ⟨z,hz⟩:=Option.isSome_iff_exists.1 hc4
 have hk:k=ps.size:=by have:=congrArg List.length hc1;simpa using this.symm
 rcases h with ⟨hnil,hK⟩ | ⟨hne,es,hes,hK⟩
 ·have hps:ps=#[]:=by
   have:ps.toList=[]:=by simpa using hnil
   rw [<- Array.toArray_toList (xs:=ps),this]
  subst hps
  have hk0:k=0:=by simpa using hk
  subst hk0
  refine ⟨_,_,_,hK,fun _=>⟨rfl,rfl⟩,(by intro h hh;cases hh),fun G m w ρ _ lk2 _ hS hev _=>?_⟩
  refine Does.val (v:=.slice (some ⟨w.heap.size,0,none⟩) 0 0) (w':=w.alloc (.cells #[] e)) ?_ (PPost.garb hS _ ?_)
  ·simp [execOp,ho,Instr.buildSlice,run_underlying hT,run_size hi,Instr.fill,newRow,Array.range_zero']
  ·unfold AV.Rep
   refine ⟨?_,_,rfl⟩
   unfold DV.Rep
   exact ⟨_,0,rfl,by simp,fun _=>rfl,fun h=>absurd rfl h⟩
 refine ⟨_,_,_,hK,fun _=>⟨rfl,rfl⟩,(by intro h hh;cases hh),fun G m w ρ _ lk2 _ hS hev _=>?_⟩
 have hzc:∀ x ∈ ps.toList.map (·.2),AV.Rep G m (ev x) (ρ x):=fun x hx=>hev x (by simpa [ROp.operands] using hx)
 have hkpos:0 < k:=by
  rw [hk]
  rcases Nat.eq_zero_or_pos ps.size with h0 | h0
  ·exfalso;apply hne;have:ps=#[]:=by simpa using h0
   subst this;rfl
  ·exact h0
 let css:List (List Value):=(ps.toList.map (·.2)).map fun x=>(ρ x).cells.toList
 have hout3:=adataL_out (lk:=fun _=>none) (ρ:=ρ) hS (fun h mt k es hh=>by cases hh) hes hzc (fun h hh hsome=>by cases hsome)
 have hsize:∀ x ∈ ps.toList.map (·.2),(ρ x).cells.size=i.size:=hout3.1
 have hzs:(Array.range (k * i.size)).map (z.cells[· % z.cells.size]!)=((Array.range (k * i.size)).map (z.cells[· % z.cells.size]!)):=rfl
 let base:Array Value:=(Array.range (k * i.size)).map (z.cells[· % z.cells.size]!)
 have hbase:base.toList.length=k * i.size:=by simp [base]
 let rs:List (Nat × List Value):=(css.zipIdx 0).map fun p=>(p.2 * i.size,p.1)
 have hcssl:css.length=k:=by simp [css,hk]
 have hparts:∀ (j i':Nat) (v:Value),(ps.map fun (i,x)=>(i,ρ x)).toList[j]?=some (i',v)->i'=j/\j < k/\css[j]?=some v.cells.toList/\v.cells.size=i.size:=fun j i' v hj=>by
  rw [Array.toList_map,List.getElem?_map] at hj
  cases hx:ps.toList[j]? with
  | none=>rw [hx] at hj;cases hj
  | some p =>
   rw [hx] at hj
   obtain ⟨i2,x⟩:=p
   simp only [Option.map_some,Option.some.injEq,Prod.mk.injEq] at hj
   obtain ⟨rfl,rfl⟩:=hj
   have hlt:=(List.getElem?_eq_some_iff.1 hx).1
   have h1:(List.range k)[j]?=some i2:=by rw [<- hc1,List.getElem?_map,hx];rfl
   have hlt':j < k:=by rw [hk];simpa using hlt
   rw [List.getElem?_range hlt'] at h1
   cases h1
   refine ⟨rfl,hlt',by simp [css,hx],hsize x ?_⟩
   exact List.mem_map.2 ⟨_,List.mem_of_getElem? hx,rfl⟩
 obtain ⟨out,ho1,ho2⟩:=run_fill (fun j=>some (j * i.size,i.size)) (ps.map fun (i,x)=>(i,ρ x)).toList base rs (by simp [rs,hcssl,hk]) (fun j i' v hj=>by
  obtain ⟨rfl,h1,h2,h3⟩:=hparts j i' v hj
  refine ⟨i' * i.size,?_,by rw [h3],?_⟩
  ·simp [rs,List.getElem?_zipIdx,h2]
  ·rw [h3]
   have:base.size=k * i.size:=by simpa using hbase
   rw [this,<- Nat.succ_mul]
   exact Nat.mul_le_mul_right _ h1)
 have hout:out.toList=css.flatten:=by
  rw [ho2]
  have:=vfill_seq (k:=i.size) css 0 [] base.toList (fun c hc=>by
   simp only [css,List.mem_map] at hc
   obtain ⟨x,hx,rfl⟩:=hc
   simpa using hsize x (List.mem_map.2 hx)) (by simp) (by rw [hbase,hcssl])
  simpa [rs] using this
 refine Does.val (v:=.slice (some ⟨w.heap.size,0,none⟩) k k) (w':=w.alloc (.cells out e)) ?_ ?_
 ·have hnz:¬ (k * i.size=0):=by
   have:=Nat.mul_pos hkpos hc3
   omega
  have hle:¬ (16777216 < k * i.size):=by omega
  have ho1':Instr.fill (fun j=>some (j * i.size,i.size)) ((Array.range (k * i.size)).map (z.cells[· % z.cells.size]!)) (ps.map fun (i,x)=>(i,ρ x)).toList=some out:=ho1
  simp only [execOp,ho,Instr.buildSlice,Sem.run_bind,run_underlying hT,run_size hi,Result.andThen_ok]
  simp only [show (2:Nat) ^ 24=16777216 from rfl,hle,hnz,if_false,Sem.run_bind,run_zero hi hz,Result.andThen_ok,Sem.run_pure,ho1']
  simp [newRow]
 ·
  have hosz:out.size=k * i.size:=by
   have h1:out.toList.length=(css.flatten).length:=by rw [hout]
   have h2:(css.flatten).length=css.length * i.size:=by
    have:∀ (l:List (List Value)),(∀ c ∈ l,c.length=i.size)->l.flatten.length=l.length * i.size:=fun l=>by
     induction l with
     | nil=>simp
     | cons c l ih=>intro hl;simp [ih (fun d hd=>hl d (by simp [hd])),hl c (by simp),Nat.add_mul];omega
    exact this css (fun c hc=>by
     simp only [css,List.mem_map] at hc
     obtain ⟨x,hx,rfl⟩:=hc
     simpa using hsize x (List.mem_map.2 hx))
   rw [h2,hcssl] at h1
   simpa using h1
  refine PPost.data (w':=w.alloc (.cells out e)) hS out.toList rfl (.same rfl rfl) rfl (by rw [World.size_alloc];omega) (fun j hj=>heap_alloc_old w _ hj) (fun j v hj=>?_) fun G' hle hG'=>?_
  ·have:=heap_alloc_new w (.cells out e (0,0))
   unfold World.cell?
   rw [this]
   simpa using hj
  ·have hl:es.length=k:=by rw [hout3.2.1];simp [hk]
   unfold AV.Rep DV.Rep
   refine ⟨⟨some ⟨w.heap.size,0,none⟩,k,by rw [hl],by omega,(fun h=>by cases h),fun _=>⟨w.heap.size,0,i.size,rfl,?_⟩⟩,some ⟨w.heap.size,0,none⟩,by rw [hl]⟩
   refine (hout3.2.2 (fun o=>G' w.heap.size o) 0 (fun j hj=>?_)).mono hle (fun _ _ h=>h)
   rw [Nat.zero_add]
   have hj':j < out.toList.length:=by rw [hout];exact hj
   show G' w.heap.size j=(css.flatten)[j]?
   rw [<- hout,List.getElem?_eq_getElem hj']
   exact hG' j _ (List.getElem?_eq_getElem hj')
theorem ps_mkI {T:TypeId} {fs:Array Field} {x:Operand} (ho:o.op=.makeInterface T x) (hT:P.underlying T=some (.struct fs)) (h:pstep P lk n ev (.mkI T x) K):PS P o (.mkI T x) lk n ev K:=by
 obtain ⟨hx,hK⟩:=h
 refine ⟨_,_,_,hK,fun _=>⟨rfl,rfl⟩,(by intro h hh;cases hh),fun G m w ρ _ lk2 _ hS hev _=>?_⟩
 have hr:=evr hev hx (by simp [ROp.operands])
 unfold AV.Rep at hr
 obtain ⟨vs,hv,hvs⟩:=hr
 unfold AV.RepL at hvs
 have:vs=#[]:=by simpa using hvs
 subst this
 refine Does.val (v:=.iface T (.agg #[])) (w':=w) ?_ (PPost.val hS (by unfold AV.Rep DV.Rep;rfl))
 simp [execOp,ho,hv,Instr.makeInterface,run_underlying hT]
theorem ps_loadD {T:TypeId} {x:Operand} {ag:Option Nat} (ho:o.op=.load T x) (hr:resolveOp P o=some (.load ag x)) (h:pstep P lk n ev (.loadD ag x) K):PS P o (.loadD ag x) lk n ev K:=by
 have hp:pstep P (fun _=>none) n ev (.load ag x) (fun a nbs fz=>nbs=[]/\fz=[]/\K a nbs fz):=by
  show aload _ ag (fun a=>([]:List Blk)=[]/\([]:List Hd)=[]/\K a [] []) (ev x)
  simp only [true_and]
  exact h
 obtain ⟨a,nbs,fz,⟨rfl,rfl,hK⟩,_,_,hD⟩:=ps_load ho hr hp
 exact ⟨a,[],[],hK,fun _=>⟨rfl,rfl⟩,(by intro h hh;cases hh),fun G m w ρ hρ lk2 _ hS hev hn=>hD G m w ρ hρ lk2 (fun _ y b hb=>by cases hb) hS hev hn⟩
theorem ps_sllD {T e:TypeId} {k:Nat} {x:Operand} {lo hi mx:Option Operand} (ho:o.op=.slice T x lo hi mx) (hT:P.underlying T=some (.slice e)) (hr:resolveOp P o=some (.sll k x lo hi mx)) (h:pstep P lk n ev (.sllD k x lo hi mx) K):PS P o (.sllD k x lo hi mx) lk n ev K:=by
 have hp:pstep P (fun _=>none) n ev (.sll k x lo hi mx) (fun a nbs fz=>nbs=[]/\fz=[]/\K a nbs fz):=by
  have h:(match ev x with
   | .D (.L es)=>aslice k ev lo hi mx (fun a=>K a [] []) (.D (.L es))
   | .fl es=>aslice k ev lo hi mx (fun a=>K a [] []) (.fl es)
   | _=>False):=h
  show AV.live (fun _=>none) (ev x)=true/\aslice k ev lo hi mx (fun a=>([]:List Blk)=[]/\([]:List Hd)=[]/\K a [] []) (ev x)
  simp only [true_and]
  split at h
  ·rename_i es hx
   rw [hx];exact ⟨rfl,h⟩
  ·rename_i es hx
   rw [hx];exact ⟨rfl,h⟩
  ·exact h.elim
 obtain ⟨a,nbs,fz,⟨rfl,rfl,hK⟩,_,_,hD⟩:=ps_sll ho hT hr hp
 exact ⟨a,[],[],hK,fun _=>⟨rfl,rfl⟩,(by intro h hh;cases hh),fun G m w ρ hρ lk2 _ hS hev hn=>hD G m w ρ hρ lk2 (fun _ y b hb=>by cases hb) hS hev hn⟩
theorem ps_iaddrD {T e:TypeId} {k:Nat} {x i:Operand} (ho:o.op=.indexAddr T x i) (hT:P.underlying T=some (.slice e)) (hr:resolveOp P o=some (.iaddr k x i)) (h:pstep P lk n ev (.iaddrD k x i) K):PS P o (.iaddrD k x i) lk n ev K:=by
 have hp:pstep P (fun _=>none) n ev (.iaddr k x i) (fun a nbs fz=>nbs=[]/\fz=[]/\K a nbs fz):=by
  obtain ⟨kd,j,hj,h0,h'⟩:=h
  split at h'
  ·rename_i es hx
   obtain ⟨e',he,hl,hK⟩:=h'
   refine ⟨by rw [hx];rfl,kd,j,hj,h0,?_⟩
   rw [hx]
   exact ⟨e',he,hl,rfl,rfl,hK⟩
  ·rename_i es hx
   obtain ⟨e',he,hl,hK⟩:=h'
   refine ⟨by rw [hx];rfl,kd,j,hj,h0,?_⟩
   rw [hx]
   exact ⟨e',he,hl,rfl,rfl,hK⟩
  ·exact h'.elim
 obtain ⟨a,nbs,fz,⟨rfl,rfl,hK⟩,_,_,hD⟩:=ps_iaddr ho hT hr hp
 exact ⟨a,[],[],hK,fun _=>⟨rfl,rfl⟩,(by intro h hh;cases hh),fun G m w ρ hρ lk2 _ hS hev hn=>hD G m w ρ hρ lk2 (fun _ y b hb=>by cases hb) hS hev hn⟩
theorem ps_isn {op:BinOp} {T yT:TypeId} {x:Operand} {ms:Array (String × TypeId)} (ho:o.op=.binOp op T x (.const .nilIface) yT) (hT:P.underlying T=some (.interface ms)) (hc:opEq op=true) (h:pstep P lk n ev (.isn (opNeq op) x) K):PS P o (.isn (opNeq op) x) lk n ev K:=by
 obtain ⟨v,hx,h⟩:=h
 have hT':P.underlying T=some (.interface (P.methodsAt T)):=by simp [Program.methodsAt,hT]
 have hops:op=.eql\/op=.neq:=by cases op <;> simp [opEq] at hc |-
 split at h
 ·refine ⟨_,_,_,h,fun _=>⟨rfl,rfl⟩,(by intro h hh;cases hh),fun G m w ρ hρ lk2 _ hS hev _=>?_⟩
  have hr:=evr hev hx (by simp [ROp.operands])
  unfold AV.Rep DV.Rep at hr
  have he:(Op.equalIn 10000 T .nilIface .nilIface).run P w=.ok true w:=run_equalIn_nil_nil w 9999 T hT'
  refine Does.val (v:=.bool (!opNeq op)) (w':=w) ?_ (PPost.val hS (by unfold AV.Rep DV.Rep;rfl))
  rcases hops with rfl | rfl
  ·simp [execOp,ho,hr,hρ,eqGuard,binOp,Op.equal,Op.maxDepth,he,opNeq]
  ·simp [execOp,ho,hr,hρ,eqGuard,binOp,Op.equal,Op.maxDepth,he,opNeq]
 ·rename_i u x'
  refine ⟨_,_,_,h,fun _=>⟨rfl,rfl⟩,(by intro h hh;cases hh),fun G m w ρ hρ lk2 _ hS hev _=>?_⟩
  have hr:=evr hev hx (by simp [ROp.operands])
  unfold AV.Rep DV.Rep at hr
  have he:(Op.equalIn 10000 T (.iface u x') .nilIface).run P w=.ok false w:=run_equalIn_held_nil w 9999 T u x' hT'
  refine Does.val (v:=.bool (opNeq op)) (w':=w) ?_ (PPost.val hS (by unfold AV.Rep DV.Rep;rfl))
  rcases hops with rfl | rfl
  ·simp [execOp,ho,hr,hρ,eqGuard,binOp,Op.equal,Op.maxDepth,he,opNeq]
  ·simp [execOp,ho,hr,hρ,eqGuard,binOp,Op.equal,Op.maxDepth,he,opNeq]
 ·exact h.elim
theorem ps_tas {xT T:TypeId} {x:Operand} {fs:Array Field} (ho:o.op=.typeAssert x xT T true) (hT:P.underlying T=some (.struct fs)) (h:pstep P lk n ev (.tas T x) K):PS P o (.tas T x) lk n ev K:=by
 obtain ⟨hx,hK⟩:=h
 refine ⟨_,_,_,hK,fun _=>⟨rfl,rfl⟩,(by intro h hh;cases hh),fun G m w ρ _ lk2 _ hS hev _=>?_⟩
 have hr:=evr hev hx (by simp [ROp.operands])
 unfold AV.Rep DV.Rep at hr
 refine Does.val (v:=.tuple #[.agg #[],.bool true]) (w':=w) ?_ (PPost.val hS ?_)
 ·simp [execOp,ho,hr,Instr.typeAssert,run_underlying hT]
 ·unfold AV.Rep
  refine ⟨_,rfl,?_⟩
  unfold AV.RepL
  refine ⟨_,_,rfl,?_,?_⟩
  ·unfold AV.Rep
   exact ⟨_,rfl,by unfold AV.RepL;rfl⟩
  ·unfold AV.RepL
   exact ⟨_,_,rfl,by unfold AV.Rep DV.Rep;rfl,by unfold AV.RepL;rfl⟩
end
end Go.Eng


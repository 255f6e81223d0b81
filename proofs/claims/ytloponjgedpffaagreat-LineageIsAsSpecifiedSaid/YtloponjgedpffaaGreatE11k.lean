/- Texts of this claim. -/
import Derived.Test.YtloponjgedpffaaGreatE11c
set_option linter.all false
set_option linter.unusedSimpArgs false
set_option linter.unusedVariables false
namespace Go.Eng
open Go.RowKit

theorem rB (k:IntKind):∀ (m:Nat) (ns:List Int),ns.length=m->List.zipWith Value.int (List.replicate m k) ns=ns.map (Value.int k)
 | 0,ns,h=>by rw [List.length_eq_zero_iff.1 h];rfl
 | m + 1,[],h=>by cases h
 | m + 1,n :: ns,h=>by
  show Value.int k n :: List.zipWith Value.int (List.replicate m k) ns=Value.int k n :: ns.map (Value.int k)
  rw [rB k m ns (by simpa using h)]
theorem aMp {P:Program}:∀ {fs:List Field} {off:Nat} {ks:List IntKind},aHy P fs off=some ks->∃ sh,oY P (tT P 1) fs off=some sh/\∀ ns ns':List Int,ns.length=ks.length->ns'.length=ks.length->EqV sh (List.zipWith Value.int ks ns) (List.zipWith Value.int ks ns') (ns == ns')
 | [],off,ks,h=>by
  cases h
  refine ⟨[],rfl,fun ns ns' h h'=>?_⟩
  rw [List.length_eq_zero_iff.1 h,List.length_eq_zero_iff.1 h']
  exact .nil
 | x :: fs,off,ks,h=>by
  unfold aHy at h
  split at h
  ·cases h
  ·rename_i hno
   split at h
   ·rename_i k i l h1 h2 h3
    rw [Option.ite_none_right_eq_some] at h
    obtain ⟨hsz,h⟩:=h
    cases h
    obtain ⟨sh,e1,e2⟩:=aMp h3
    have hc:P.cellsOf x.type=1:=by simp [Program.cellsOf,h2,hsz]
    refine ⟨.s 1 :: sh,?_,fun ns ns' hn hn'=>?_⟩
    ·unfold oY
     rw [if_neg hno]
     have:tT P 1 x.type=some [.s 1]:=by unfold tT;rw [h1]
     rw [this,h2,hc,e1]
     rfl
    ·cases ns with
     | nil=>cases hn
     | cons n ns=>cases ns' with
      | nil=>cases hn'
      | cons n' ns' =>
       have:=e2 ns ns' (by simpa using hn) (by simpa using hn')
       show EqV (.s 1 :: sh) (Value.int k n :: List.zipWith Value.int l ns) (Value.int k n' :: List.zipWith Value.int l ns') ((n == n') && (ns == ns'))
       exact .s (.inr (.inl ⟨rfl,k,n,n',rfl,rfl,rfl⟩)) this
   ·cases h
theorem aSn {P:Program} {T:TypeId} {ks:List IntKind} (h:aIx P T=some ks):(∃ d,P.underlying T=some d/\aU d=true)/\∃ sh,tT P 2 T=some sh/\∀ ns ns':List Int,ns.length=ks.length->ns'.length=ks.length->EqV sh (List.zipWith Value.int ks ns) (List.zipWith Value.int ks ns') (ns == ns'):=by
 unfold aIx at h
 split at h
 ·rename_i m e hu
  split at h
  ·rename_i k i h1 h2
   rw [Option.ite_none_right_eq_some] at h
   obtain ⟨hsz,h⟩:=h
   cases h
   refine ⟨⟨_,hu,rfl⟩,[.a k m],?_,fun ns ns' hn hn'=>?_⟩
   ·unfold tT
    rw [hu]
    simp only
    rw [h1,h2]
    simp only
    rw [if_pos hsz]
   ·rw [List.length_replicate] at hn hn'
    rw [rB k m ns hn,rB k m ns' hn']
    have:=EqV.a (k:=k) (r:=[]) (xs:=[]) (ys:=[]) (b:=true) hn hn' .nil
    simpa using this
  ·cases h
 ·rename_i fs hu
  rw [Option.ite_none_left_eq_some] at h
  obtain ⟨hst,h⟩:=h
  obtain ⟨sh,e1,e2⟩:=aMp h
  refine ⟨⟨_,hu,rfl⟩,sh,?_,e2⟩
  unfold tT
  rw [hu]
  simp only
  rw [if_neg hst];exact e1
 ·cases h
section
variable {P:Program} {w:World} {kt:TypeId} {kd:KD}
theorem aR1 {cs:Array Value} {e:Bool}:∀ {fs:List Field} {off:Nat} {ks:List IntKind} {ns:List Int},aHy P fs off=some ks->ns.length=ks.length->cs.toList.drop off=List.zipWith Value.int ks ns ->
  (forIn fs PUnit.unit fun f (_ : PUnit) => (if f.name ≠ "_" then (part f.type cs f.offset >>= fun a => Instr.checkKey e 9999 f.type a >>= fun _ => pure (ForInStep.yield PUnit.unit)) else pure (ForInStep.yield PUnit.unit) : Sem (ForInStep PUnit))).run P w = .ok PUnit.unit w
 | [],off,ks,ns,h,_,_=>by simp
 | x :: fs,off,ks,ns,h,hn,hc=>by
  unfold aHy at h
  split at h
  ·cases h
  ·rename_i hno
   split at h
   ·rename_i k i l h1 h2 h3
    rw [Option.ite_none_right_eq_some] at h
    obtain ⟨hsz,h⟩:=h
    cases h
    have hname : x.name ≠ "_" := fun e => hno (.inl e)
    have hoff:x.offset=off:=Classical.byContradiction fun e=>hno (.inr e)
    cases ns with
    | nil=>cases hn
    | cons n ns =>
     have hc0:cs[off]?=some (.int k n):=by
      have:=congrArg List.head? hc
      rw [List.head?_drop,Array.getElem?_toList] at this
      exact this
     have hc1:cs.toList.drop (off + 1)=List.zipWith Value.int l ns:=by
      have:=congrArg (List.drop 1) hc
      rw [List.drop_drop] at this
      exact this
     have p1:(part x.type cs x.offset).run P w=.ok (.int k n) w:=by simp [part,dD h1,aU,hoff,hc0]
     have p2:(Instr.checkKey e 9999 x.type (.int k n)).run P w=.ok () w:=MapKept.run_checkKey h1 (show MapKept.IsKey (.int k) (.int k n) from rfl) e 9998
     simp only [List.forIn_cons,Sem.run_bind,hname,ne_eq,not_false_eq_true,if_true,Result.andThen_ok,p1,p2,Sem.run_pure]
     exact aR1 h3 (by simpa using hn) hc1
   ·cases h
theorem dH {v:Value} {e:Bool} (hd:wO P kt kd) (hk:fM kd v):(Instr.checkKey e 10000 kt v).run P w=.ok () w:=by
 cases kd with
 | i k =>
  have hk':MapKept.IsKey (.int k) v:=by cases v <;> first | exact hk | exact hk.elim
  exact MapKept.run_checkKey hd hk' e 9999
 | s =>
  have hk':MapKept.IsKey .string v:=by cases v <;> first | exact hk | exact hk.elim
  exact MapKept.run_checkKey hd hk' e 9999
 | a ks =>
  cases v <;> first | exact hk.elim | skip
  rename_i cs
  obtain ⟨ns,hn,hc⟩:=hk
  have hd:aIx P kt=some ks:=hd
  unfold aIx at hd
  rw [show (10000:Nat)=9999 + 1 from rfl,Instr.checkKey]
  split at hd
  ·rename_i m et hu
   split at hd
   ·rename_i k i h1 h2
    rw [Option.ite_none_right_eq_some] at hd
    obtain ⟨hsz,hd⟩:=hd
    cases hd
    rw [List.length_replicate] at hn
    rw [rB k m ns hn] at hc
    simp only [Sem.run_bind,run_underlying hu,Result.andThen_ok]
    simp only [Std.Legacy.Range.forIn_eq_forIn_range',Std.Legacy.Range.size,Nat.sub_zero,Nat.add_one_sub_one,Nat.div_one]
    have each:∀ j ∈ List.range' 0 m,∃ n,cs[j]?=some (.int k n):=fun j hj=>by
     have hj:j < ns.length:=by rw [hn];have:=List.mem_range'.1 hj;omega
     refine ⟨ns[j],?_⟩
     rw [<- Array.getElem?_toList,hc,List.getElem?_map,List.getElem?_eq_getElem hj];rfl
    have hcl:P.cellsOf et=1:=by simp [Program.cellsOf,h2,hsz]
    generalize List.range' 0 m=is at each
    induction is with
    | nil=>simp
    | cons j is ih =>
     obtain ⟨n,hj⟩:=each j (by simp)
     have p1:(part et cs (j * P.cellsOf et)).run P w=.ok (.int k n) w:=by simp [part,dD h1,aU,hcl,hj]
     have p2:(Instr.checkKey e 9999 et (.int k n)).run P w=.ok () w:=MapKept.run_checkKey h1 (show MapKept.IsKey (.int k) (.int k n) from rfl) e 9998
     simp only [List.forIn_cons,Sem.run_bind,run_sizeOf w h2,Result.andThen_ok,p1,p2,Sem.run_pure]
     exact ih (fun y hy=>each y (by simp [hy]))
   ·cases hd
  ·rename_i fs hu
   rw [Option.ite_none_left_eq_some] at hd
   simp only [Sem.run_bind,run_underlying hu,Result.andThen_ok]
   rw [<- Array.forIn_toList]
   have:=aR1 (w:=w) (cs:=cs) (e:=e) hd.2 hn (by simpa using hc)
   rw [this];rfl
  ·cases hd
theorem aPy {ks:List IntKind} (hd:aIx P kt=some ks) {u v:Value} (hu:fM (.a ks) u) (hv:fM (.a ks) v):∃ r:Bool,(Op.equal kt u v).run P w=.ok r w/\(r=true ↔ u=v):=by
 cases u <;> first | exact hu.elim | skip
 cases v <;> first | exact hv.elim | skip
 rename_i cs ds
 obtain ⟨ns,e1,e2⟩:=hu
 obtain ⟨ns',f1,f2⟩:=hv
 obtain ⟨⟨d,hd1,hd2⟩,sh,h1,h2⟩:=aSn hd
 have pk:∀ (us:List Value) (xs:Array Value),xs.toList=us->Pk P kt us (.agg xs):=fun us xs h=>⟨d,hd1,.inl ⟨hd2,by rw [<- h]⟩⟩
 refine ⟨ns == ns',aDg 2 kt sh 10000 _ _ _ _ _ h1 (h2 ns ns' e1 f1) (pk _ _ e2) (pk _ _ f2) (by omega),?_⟩
 rw [beq_iff_eq]
 have inj:∀ (ks:List IntKind) (a b:List Int),a.length=ks.length->b.length=ks.length->List.zipWith Value.int ks a=List.zipWith Value.int ks b->a=b:=fun ks=>by
  induction ks with
  | nil=>intro a b h h' _;rw [List.length_eq_zero_iff.1 h,List.length_eq_zero_iff.1 h']
  | cons k ks ih =>
   intro a b h h' e
   cases a with
   | nil=>cases h
   | cons x a=>cases b with
    | nil=>cases h'
    | cons y b =>
     simp only [List.zipWith_cons_cons,List.cons.injEq,Value.int.injEq,true_and] at e
     rw [e.1,ih a b (by simpa using h) (by simpa using h') e.2]
 constructor
 ·rintro rfl
  congr 1
  apply Array.toList_inj.1
  rw [e2,f2]
 ·intro e
  cases e
  exact inj ks ns ns' e1 f1 (e2.symm.trans f2)
theorem zS {ks:List IntKind} (hd:aIx P kt=some ks) {x:Value} (hx:fM (.a ks) x) :
  ∀ (es:List MapEntry) (i:Nat),(∀ e ∈ es,fM (.a ks) e.key) ->
   ((Instr.findAsking kt x es i).run P w=.ok none w/\∀ e ∈ es,e.key ≠ x) \/
   ∃ j e,(Instr.findAsking kt x es i).run P w=.ok (some (i + j,e.val)) w/\es[j]?=some e/\e.key=x
 | [],i,_=>Or.inl ⟨by simp [Instr.findAsking],by simp⟩
 | e :: es,i,hall=>by
  obtain ⟨r,hr,hiff⟩:=aPy (w:=w) hd hx (hall e (by simp))
  cases r
  ·have hne:e.key ≠ x:=fun h=>by have:=hiff.2 h.symm;cases this
   rcases zS hd hx es (i + 1) (fun y hy=>hall y (by simp [hy])) with ⟨h1,h2⟩ | ⟨j,e',h1,h2,h3⟩
   ·left
    refine ⟨by simp [Instr.findAsking,hr,h1],fun y hy=>?_⟩
    rcases List.mem_cons.1 hy with rfl | hy
    ·exact hne
    ·exact h2 y hy
   ·right
    exact ⟨j + 1,e',by simp [Instr.findAsking,hr,h1,Nat.add_assoc,Nat.add_comm 1 j],by simpa using h2,h3⟩
  ·right
   exact ⟨0,e,by simp [Instr.findAsking,hr],rfl,(hiff.1 rfl).symm⟩
theorem aUm (hd:wO P kt kd) {x:Value} (hx:fM kd x) (w:World) (es:List MapEntry) (hall:∀ e ∈ es,fM kd e.key) :
  ((Instr.findKey kt x es).run P w=.ok none w/\∀ e ∈ es,e.key ≠ x)\/∃ j e,(Instr.findKey kt x es).run P w=.ok (some (j,e.val)) w/\es[j]?=some e/\e.key=x:=by
 have one:∀ d:TypeDesc,P.underlying kt=some d->MapKept.IsKey d x->(∀ e ∈ es,MapKept.IsKey d e.key)->((Instr.findKey kt x es).run P w=.ok none w/\∀ e ∈ es,e.key ≠ x)\/∃ j e,(Instr.findKey kt x es).run P w=.ok (some (j,e.val)) w/\es[j]?=some e/\e.key=x:=fun d hd h1 h2=>by
  rcases MapKept.findNow_spec h1 es 0 h2 with ⟨q1,q2⟩ | ⟨j,e,q1,q2,q3⟩
  ·exact .inl ⟨MapKept.run_findKey hd q1,q2⟩
  ·rw [Nat.zero_add] at q1
   exact .inr ⟨j,e,MapKept.run_findKey hd q1,q2,q3⟩
 have isk:∀ {v:Value},fM kd v->match kd with
   | .i k=>MapKept.IsKey (.int k) v
   | .s=>MapKept.IsKey .string v
   | .a _=>True:=fun {v} h=>by
  cases kd <;> first | trivial | (cases v <;> first | exact h | exact h.elim)
 cases kd with
 | i k=>exact one _ hd (isk hx) fun e he=>isk (hall e he)
 | s=>exact one _ hd (isk hx) fun e he=>isk (hall e he)
 | a ks =>
  have hd:aIx P kt=some ks:=hd
  have heq:(Instr.findKey kt x es).run P w=(Instr.findAsking kt x es).run P w:=by
   obtain ⟨⟨d,hu,ha⟩,_⟩:=aSn hd
   cases es with
   | nil=>simp [Instr.findKey,run_underlying hu,Instr.findNow,Instr.findAsking]
   | cons e es=>cases d <;> first | (cases ha;done) | simp [Instr.findKey,run_underlying hu,Instr.findNow,Instr.sameNow]
  rw [heq]
  rcases zS (w:=w) hd hx es 0 hall with ⟨h1,h2⟩ | ⟨j,e,h1,h2,h3⟩
  ·exact .inl ⟨h1,h2⟩
  ·exact .inr ⟨j,e,by simpa using h1,h2,h3⟩
theorem aF8 {k:Value} (hk:fM kd k):(Instr.keyThatStays k k).run P w=.ok k w:=by
 have hs:Instr.sameBits 10000 k k=true:=by
  cases kd with
  | i q =>
   have hk':MapKept.IsKey (.int q) k:=by cases k <;> first | exact hk | exact hk.elim
   exact MapKept.sameBits_self hk' _
  | s =>
   have hk':MapKept.IsKey .string k:=by cases k <;> first | exact hk | exact hk.elim
   exact MapKept.sameBits_self hk' _
  | a ks =>
   cases k <;> first | exact hk.elim | skip
   rename_i xs
   obtain ⟨ns,_,hc⟩:=hk
   show Instr.sameBits (9999 + 1) (.agg xs) (.agg xs)=true
   simp only [Instr.sameBits,beq_self_eq_true,Bool.true_and,List.all_eq_true]
   intro p hp
   rw [hc] at hp
   have:∀ (ks:List IntKind) (ns:List Int) (p:Value × Value),p ∈ (List.zipWith Value.int ks ns).zip (List.zipWith Value.int ks ns)->Instr.sameBits 9999 p.1 p.2=true:=fun ks=>by
    induction ks with
    | nil=>intro ns p hp;simp at hp
    | cons k ks ih =>
     intro ns p hp
     cases ns with
     | nil=>simp at hp
     | cons n ns =>
      simp only [List.zipWith_cons_cons,List.zip_cons_cons,List.mem_cons] at hp
      rcases hp with rfl | hp
      ·simp [Instr.sameBits]
      ·exact ih ns p hp
   exact this ks ns p hp
 simp [Instr.keyThatStays,hs]
theorem aKs {es:Array MapEntry} (h:∀ x ∈ es.toList,fM kd x.key) (i:Nat) (f:MapEntry->MapEntry) (hk:∀ e,es[i]?=some e->(f e).key=e.key):∀ x ∈ (es.modify i f).toList,fM kd x.key:=by
 intro x hx
 have:x.key ∈ (es.modify i f).toList.map (·.key):=List.mem_map.2 ⟨x,hx,rfl⟩
 rw [MapKept.modify_keys i f hk] at this
 obtain ⟨y,hy,e⟩:=List.mem_map.1 this
 rw [<- e];exact h y hy
end
end Go.Eng


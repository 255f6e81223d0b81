/- Texts of this claim. -/
import Derived.Test.YtkfcmelpadbdcaaGreatDoorE7
set_option linter.all false
set_option linter.unusedSimpArgs false
set_option linter.unusedVariables false
namespace Go.Eng
open Go.RowKit

def Bd (v:Option Value) (r dflt:Nat):Prop:=(v=none/\r=dflt)\/∃ k,v=some (.int k r)

theorem run_bounds {P:Program} {isSlice:Bool} {len cap:Nat} {lo hi mx:Option Value} {l h m:Nat} (hm:Bd mx m cap) (hh:Bd hi h len) (hl:Bd lo l 0) (h1:l <= h) (h2:h <= m) (h3:m <= cap)
  (hs:mx.isSome=true->hi.isSome=true) (w:World):(Instr.sliceBounds isSlice len cap lo hi mx).run P w=.ok (l,h,m) w:=by
 have b1:∀ (k:IntKind) (y:Nat) (r:Nat) (code:BoundsCode) (w:World),r <= y->(Instr.sliceBound (.int k r) y code).run P w=.ok r w:=fun k y r code w hr=>by
  rw [run_sliceBound w k r y code (by omega) (by omega)];simp
 rcases hm with ⟨rfl,rfl⟩ | ⟨km,rfl⟩ <;> rcases hh with ⟨rfl,rfl⟩ | ⟨kh,rfl⟩ <;> rcases hl with ⟨rfl,rfl⟩ | ⟨kl,rfl⟩
 all_goals first
  | (simp at hs;done)
  | simp [Instr.sliceBounds,b1,h1,h2,h3]

section
variable {P:Program} {o:Oper} {lk:Look} {n:Nat} {ev:Operand->AV} {K:AV->List Blk->List Hd->Prop}

theorem optInt_out {x:Option Operand} {dflt:Nat} {K':Nat->Prop} (h:optInt ev x dflt K') :
  ∃ r,K' r/\∀ (G:Gh) (m:HM) (ρ:Operand->Value),(∀ z ∈ x.toList,AV.Rep G m (ev z) (ρ z))->Bd (x.map ρ) r dflt:=by
 unfold optInt at h
 split at h
 ·exact ⟨_,h,fun _ _ _ _=>.inl ⟨rfl,rfl⟩⟩
 ·obtain ⟨k,i,hx,h0,hK⟩:=h
  refine ⟨_,hK,fun G m ρ hev=>.inr ⟨k,?_⟩⟩
  have:=rep_I (hx ▸ hev _ (by simp))
  simp only [Option.map_some,this,Int.toNat_of_nonneg h0]

theorem ps_sls {T:TypeId} {x:Operand} {lo hi:Option Operand} (ho:o.op=.slice T x lo hi none) (hT:P.underlying T=some .string) (h:pstep P lk n ev (.sls x lo hi) K):PS P o (.sls x lo hi) lk n ev K:=by
 obtain ⟨t,hx,h⟩:=h
 obtain ⟨hh,h,bh⟩:=optInt_out h
 obtain ⟨ll,h,bl⟩:=optInt_out h
 obtain ⟨h1,h2,hK⟩:=h
 refine ⟨_,_,_,hK,by first | exact fun _=>⟨rfl,rfl⟩ | (intro hh;cases hh),(by intro h hh;first | (cases hh;done) | exact (List.mem_filter.1 hh).2 | (split at hh <;> first | exact (List.mem_filter.1 hh).2 | cases hh)),fun G m w ρ _ lk2 hls hS hev _=>?_⟩
 have e1:=rep_S (evr hev hx (by simp [ROp.operands]))
 have b1:=bh G m ρ (fun z hz=>hev z (by simp [ROp.operands] at hz |-;exact .inr (.inr hz)))
 have b2:=bl G m ρ (fun z hz=>hev z (by simp [ROp.operands] at hz |-;exact .inr (.inl hz)))
 refine Does.val (v:=.string ⟨((t.drop ll).take (hh - ll)).toArray⟩) (w':=w) ?_ (PPost.val hS (by unfold AV.Rep DV.Rep;rfl))
 have hb:=run_bounds (P:=P) (isSlice:=false) (len:=t.length) (cap:=t.length) (mx:=none) (m:=t.length) (.inl ⟨rfl,rfl⟩) b1 b2 h1 h2 (Nat.le_refl _) (fun h=>by cases h) w
 have hext:(⟨t.toArray⟩:ByteArray).extract ll hh=⟨((t.drop ll).take (hh - ll)).toArray⟩:=by
  apply ByteArray.ext
  rw [ByteArray.data_extract]
  simp [List.extract_eq_take_drop]
 simp only [execOp,ho,Option.map_none,Instr.sliceAt,Instr.slice,e1,size_mk,Sem.run_bind,run_underlying hT,Result.andThen_ok,Option.isSome_none,Bool.false_eq_true,if_false]
 rw [hb]
 simp [hext]

theorem ps_sll {T:TypeId} {x:Operand} {lo hi mx:Option Operand} {ro:ROp} (ho:o.op=.slice T x lo hi mx) {e:TypeId} (hT:P.underlying T=some (.slice e)) (hr:resolveOp P o=some ro) (h:pstep P lk n ev ro K):PS P o ro lk n ev K:=by
  simp only [resolveOp,ho,hT,Option.map_eq_some_iff] at hr
  obtain ⟨inf,hi',rfl⟩:=hr
  obtain ⟨hl,h⟩:=h
  have run:∀ (a:Option Addr) (len cap l h m:Nat) (w:World) (vlo vhi vmx:Option Value),Bd vmx m cap->Bd vhi h len->Bd vlo l 0->l <= h->h <= m->m <= cap->(vmx.isSome=true->vhi.isSome=true) ->
      (Instr.sliceAt T (.slice a len cap) vlo vhi vmx).run P w=.ok (.slice (if m=l then a else a.map (·.add (l * inf.size))) (h - l) (m - l)) w:=fun a len cap l h m w vlo vhi vmx b1 b2 b3 h1 h2 h3 hs=>by
    simp only [Instr.sliceAt,Instr.slice,Sem.run_bind,run_underlying hT,Result.andThen_ok,run_bounds b1 b2 b3 h1 h2 h3 hs w,run_size hi',Sem.run_pure]
  have hexec:∀ (ρ:Operand->Value) (a:Option Addr) (len cap l h m:Nat) (w:World),ρ x=.slice a len cap->Bd (mx.map ρ) m cap->Bd (hi.map ρ) h len->Bd (lo.map ρ) l 0->l <= h->h <= m->m <= cap->(mx.isSome=true->hi.isSome=true) ->
      (execOp ρ o).run P w=.ok (.value (.slice (if m=l then a else a.map (·.add (l * inf.size))) (h - l) (m - l))) w:=fun ρ a len cap l h m w hx b1 b2 b3 h1 h2 h3 hs=>by
    simp only [execOp,ho,hx,Sem.run_bind,run a len cap l h m w _ _ _ b1 b2 b3 h1 h2 h3 (by cases mx <;> cases hi <;> simp at hs |-),Result.andThen_ok,Sem.run_pure]
  have hrep:∀ (G:Gh) (m:HM) (es:List (List DV)) (a:Option Addr) (cap l h mm:Nat),es.length <= cap->(a=none->cap=0)->(es ≠ []->∃ b o k,a=some ⟨b,o,none⟩/\DV.rows G (G b) k o es)->l <= h->h <= es.length->h <= mm->mm <= cap ->
      (∀ e ∈ es,e.length=inf.size)->DV.Rep G (.L ((es.drop l).take (h - l))) (.slice (if mm=l then a else a.map (·.add (l * inf.size))) (h - l) (mm - l)):=fun G m es a cap l h mm hcap hnil hne h1 h2 h3 h4 hk=>by
    have hL:((es.drop l).take (h - l)).length=h - l:=by simp;omega
    unfold DV.Rep
    refine ⟨_,mm - l,by rw [hL],by rw [hL];omega,fun e=>?_,fun hne'=>?_⟩
    · split at e
      · omega
      · cases a with
        | none=>have:=hnil rfl;omega
        | some a=>cases e
    · have hlt:l < h:=by
        rcases Nat.lt_or_ge l h with hh | hh
        · exact hh
        · exfalso;apply hne';rw [show h - l=0 by omega];simp
      have hes:es ≠ []:=fun e=>by subst e;simp at h2;omega
      obtain ⟨b,off,k,rfl,hrows⟩:=hne hes
      rw [if_neg (by omega)]
      have hk':k=inf.size:=by
        obtain ⟨e0,he0⟩:∃ e0,e0 ∈ es:=List.exists_mem_of_ne_nil es hes
        rw [<- hk e0 he0];exact (DV.rows_lengths hrows e0 he0).symm
      subst hk'
      exact ⟨b,off + l * inf.size,inf.size,by rw [Option.map_some,Addr.add_lit],DV.rows_take _ (DV.rows_drop l hrows)⟩
  have hevs:∀ (G:Gh) (m:HM) (ρ:Operand->Value),(∀ z ∈ (ROp.sll inf.size x lo hi mx).operands,AV.Rep G m (ev z) (ρ z))->(∀ z ∈ lo.toList,AV.Rep G m (ev z) (ρ z))/\(∀ z ∈ hi.toList,AV.Rep G m (ev z) (ρ z))/\(∀ z ∈ mx.toList,AV.Rep G m (ev z) (ρ z)):=fun G m ρ hev =>
    ⟨fun z hz=>hev z (by simp only [ROp.operands,List.mem_cons,List.mem_append];exact .inr (.inl (.inl hz))),fun z hz=>hev z (by simp only [ROp.operands,List.mem_cons,List.mem_append];exact .inr (.inl (.inr hz))),
     fun z hz=>hev z (by simp only [ROp.operands,List.mem_cons,List.mem_append];exact .inr (.inr hz))⟩
  generalize hx:ev x=ax at h hl
  unfold aslice at h
  split at h
  · rename_i es
    obtain ⟨hu,h⟩:=h
    obtain ⟨mm,h,bm⟩:=optInt_out h
    obtain ⟨hh,h,bh⟩:=optInt_out h
    obtain ⟨ll,h,bl⟩:=optInt_out h
    obtain ⟨h1,h2,h3,hK⟩:=h
    refine ⟨_,_,_,hK,by first | exact fun _=>⟨rfl,rfl⟩ | (intro hh;cases hh),(by intro h hh;first | (cases hh;done) | exact (List.mem_filter.1 hh).2 | (split at hh <;> first | exact (List.mem_filter.1 hh).2 | cases hh)),fun G m w ρ _ lk2 hls hS hev _=>?_⟩
    obtain ⟨v1,v2,v3⟩:=hevs G m ρ hev
    obtain ⟨a,cap,hv,hcap,hnil,hne⟩:=rep_L (evr hev hx (by simp [ROp.operands]))
    cases mx with
    | none =>
      have:=hrep G m es a cap ll hh cap hcap hnil hne h1 h2 (by omega) (Nat.le_refl _) hu
      refine Does.val (hexec ρ a es.length cap ll hh cap w hv (.inl ⟨rfl,rfl⟩) (bh G m ρ v2) (bl G m ρ v1) h1 (by omega) (Nat.le_refl _) (by simp)) (PPost.val hS ?_)
      simp only [Option.isSome_none,Bool.false_eq_true,if_false]
      unfold AV.Rep;exact this
    | some mx =>
      obtain ⟨h4,rfl⟩:=h3 rfl
      have:=hrep G m es a cap ll hh hh hcap hnil hne h1 h2 (Nat.le_refl _) (by omega) hu
      have bm':=bm G m ρ v3
      have bm'':Bd (Option.map ρ (some mx)) hh cap:=by
        rcases bm' with ⟨h,_⟩ | h
        · cases h
        · exact .inr h
      refine Does.val (hexec ρ a es.length cap ll hh hh w hv bm'' (bh G m ρ v2) (bl G m ρ v1) h1 (Nat.le_refl _) (by omega) (fun _=>h4)) (PPost.val hS ?_)
      simp only [Option.isSome_some,if_true]
      unfold AV.Rep
      refine ⟨this,(if hh=ll then a else a.map (·.add (ll * inf.size))),?_⟩
      rw [show ((es.drop ll).take (hh - ll)).length=hh - ll by simp;omega]
  · rename_i es
    obtain ⟨hu,h⟩:=h
    obtain ⟨mm,h,bm⟩:=optInt_out h
    obtain ⟨hh,h,bh⟩:=optInt_out h
    obtain ⟨ll,h,bl⟩:=optInt_out h
    obtain ⟨h1,h2,h3,h4,hK⟩:=h
    refine ⟨_,_,_,hK,by first | exact fun _=>⟨rfl,rfl⟩ | (intro hh;cases hh),(by intro h hh;first | (cases hh;done) | exact (List.mem_filter.1 hh).2 | (split at hh <;> first | exact (List.mem_filter.1 hh).2 | cases hh)),fun G m w ρ _ lk2 hls hS hev _=>?_⟩
    obtain ⟨v1,v2,v3⟩:=hevs G m ρ hev
    have hfl:=evr hev hx (by simp [ROp.operands])
    unfold AV.Rep at hfl
    obtain ⟨hfl,a',hv'⟩:=hfl
    obtain ⟨a,cap,hv,hcap,hnil,hne⟩:=rep_L (m:=m) (by unfold AV.Rep;exact hfl)
    have hcap':cap=es.length:=by rw [hv] at hv';cases hv';rfl
    subst hcap'
    have:=hrep G m es a es.length ll hh mm (Nat.le_refl _) hnil hne h1 (by omega) h2 h3 hu
    refine Does.val (hexec ρ a es.length es.length ll hh mm w hv (bm G m ρ v3) (bh G m ρ v2) (bl G m ρ v1) h1 h2 h3 h4) (PPost.val hS ?_)
    split
    · rename_i e
      unfold AV.Rep
      refine ⟨this,(if mm=ll then a else a.map (·.add (ll * inf.size))),?_⟩
      rw [show ((es.drop ll).take (hh - ll)).length=hh - ll by simp;omega,e]
    · unfold AV.Rep;exact this
  · rename_i hd k' off len
    obtain ⟨rfl,rfl,h⟩:=h
    obtain ⟨hh,h,bh⟩:=optInt_out h
    obtain ⟨ll,h,bl⟩:=optInt_out h
    obtain ⟨h1,h2,hK⟩:=h
    refine ⟨_,_,_,hK,by first | exact fun _=>⟨rfl,rfl⟩ | (intro hh;cases hh),(by intro h hh;first | (cases hh;done) | exact (List.mem_filter.1 hh).2 | (split at hh <;> first | exact (List.mem_filter.1 hh).2 | cases hh)),fun G m w ρ _ lk2 hls hS hev _=>?_⟩
    obtain ⟨v1,v2,v3⟩:=hevs G m ρ hev
    obtain ⟨loc,hloc,hs⟩:=sl_live hS (hls rfl) (evr hev hx (by simp [ROp.operands])) hl
    rcases hs with ⟨p,hv,rfl⟩ | ⟨b,sz,cap,rfl,hv,hcap,hsz⟩
    · refine Does.val (hexec ρ p 0 0 ll hh 0 w hv (.inl ⟨rfl,rfl⟩) (bh G m ρ v2) (bl G m ρ v1) h1 h2 (Nat.le_refl _) (by simp)) (PPost.val hS ?_)
      unfold AV.Rep
      have z1:hh - ll=0:=by omega
      have z2:0 - ll=0:=by omega
      refine ⟨rfl,loc,hloc,fun _=>.inl ⟨(if 0=ll then p else p.map (·.add (ll * inf.size))),by rw [z1,z2],z1⟩⟩
    · refine Does.val (hexec ρ _ len cap ll hh cap w hv (.inl ⟨rfl,rfl⟩) (bh G m ρ v2) (bl G m ρ v1) h1 (by omega) (Nat.le_refl _) (by simp)) (PPost.val hS ?_)
      unfold AV.Rep
      refine ⟨rfl,_,hloc,fun _=>?_⟩
      by_cases e:cap=ll
      · have z1:hh - ll=0:=by omega
        have z2:cap - ll=0:=by omega
        exact .inl ⟨(if cap=ll then some ⟨b,off * inf.size,none⟩ else (some ⟨b,off * inf.size,none⟩:Option Addr).map (·.add (ll * inf.size))),by rw [z1,z2],z1⟩
      · refine .inr ⟨b,sz,cap - ll,rfl,?_,by omega,?_⟩
        · rw [if_neg e,Option.map_some,Addr.add_lit,<- Nat.add_mul]
        · rw [show off + ll + (cap - ll)=off + cap by omega];exact hsz
  · rename_i hd k' off len cap
    obtain ⟨rfl,rfl,h⟩:=h
    obtain ⟨hh,h,bh⟩:=optInt_out h
    obtain ⟨ll,h,bl⟩:=optInt_out h
    obtain ⟨h1,h2,h3,hK⟩:=h
    refine ⟨_,_,_,hK,by first | exact fun _=>⟨rfl,rfl⟩ | (intro hh;cases hh),(by intro h hh;first | (cases hh;done) | exact (List.mem_filter.1 hh).2 | (split at hh <;> first | exact (List.mem_filter.1 hh).2 | cases hh)),fun G m w ρ _ lk2 hls hS hev _=>?_⟩
    obtain ⟨v1,v2,v3⟩:=hevs G m ρ hev
    obtain ⟨loc,hloc,hs⟩:=slk_live hS (hls rfl) (evr hev hx (by simp [ROp.operands])) hl
    obtain ⟨b,sz,rfl,hv,hcap,hsz⟩:=hs
    refine Does.val (hexec ρ _ len cap ll hh cap w hv (.inl ⟨rfl,rfl⟩) (bh G m ρ v2) (bl G m ρ v1) h1 h2 (Nat.le_refl _) (by simp)) (PPost.val hS ?_)
    unfold AV.Rep
    refine ⟨rfl,_,hloc,fun _=>⟨b,sz,rfl,?_,by omega,?_⟩⟩
    · rw [if_neg (by omega),Option.map_some,Addr.add_lit,<- Nat.add_mul]
    · rw [show off + ll + (cap - ll)=off + cap by omega];exact hsz
  · exact h.elim

theorem does_call {P:Program} {o:Oper} {c:Call} {f:Operand} {fn:FuncId} {vs:Array Value} {ρ:Operand->Value} {w:World} {R:Value->World->Prop} (ho:o.op=.call c) (hc:c.callee=.value f) (hv:ρ f=.func (.func fn) #[] vs) (h:CallDoes P fn (c.args.map ρ ++ vs) w R):Does P o ρ w R:=by
 rcases h with ⟨⟨fd,h1,h2,h3⟩,h⟩ | ⟨v,w',h1,h⟩
 ·have hnone:fd.body.isNone=false:=by rw [Option.isNone_eq_false_iff];exact h2
  have hrun:(execOp ρ o).run P w=.ok (.enter fn (c.args.map ρ ++ vs)) w:=by
   simp only [execOp,ho,resolve,hc,hv,Deferred.ofValue,Sem.run_bind,Sem.run_pure,Result.andThen_ok,invoke,callFunc,run_program,h1,h3,hnone,Bool.false_eq_true,if_false]
   simp
  unfold Does
  rw [hrun]
  exact h
 ·refine Does.val (v:=v) (w':=w') ?_ h
  simp only [execOp,ho,resolve,hc,hv,Deferred.ofValue,Sem.run_bind,Sem.run_pure,Result.andThen_ok,invoke]
  simpa using h1

theorem ps_call {c:Call} {f:Operand} (ho:o.op=.call c) (hc:c.callee=.value f) (h:pstep P lk n ev (.call f c.args.toList) K) :
  PS P o (.call f c.args.toList) lk n ev K:=by
 obtain ⟨fn,caps,ks,z,r,nbs,hf,hz,hcall,hK⟩:=h
 refine ⟨_,_,_,hK,by first | exact fun _=>⟨rfl,rfl⟩ | (intro hh;cases hh),(by
  intro h hh
  split at hh
  ·cases hh
  ·cases z with
   | true=>cases hh
   | false=>exact (List.mem_filter.1 hh).2),fun G m w ρ _ lk2 hls hS hev hn=>?_⟩
 have hrf:=evr hev hf (by simp [ROp.operands])
 unfold AV.Rep at hrf
 obtain ⟨vs,hv,hcaps⟩:=hrf
 have hargs:AV.RepL G m (c.args.toList.map ev) (c.args.toList.map ρ):=AV.RepL_map (fun x hx=>hev x (by simp only [ROp.operands,List.mem_cons];exact .inr hx))
 have hrep:AV.RepL G m (c.args.toList.map ev ++ caps) (c.args.map ρ ++ vs).toList:=by
  rw [Array.toList_append,Array.toList_map];exact AV.RepL_append hargs hcaps
 exact does_call ho hc hv (pcallZ hz hcall (hls rfl) hS hrep (fun j hj=>hn j (by simpa using hj)))

end
end Go.Eng


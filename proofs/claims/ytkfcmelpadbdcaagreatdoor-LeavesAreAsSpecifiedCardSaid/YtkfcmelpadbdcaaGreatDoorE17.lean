/- Texts of this claim. -/
import Derived.Test.YtkfcmelpadbdcaaGreatDoorE16
set_option linter.all false
set_option linter.unusedSimpArgs false
set_option linter.unusedVariables false
namespace Go.Eng
open Go.RowKit

def lastW (r:Nat->RO) (t:Nat):Nat->Nat
 | 0=>0
 | k + 1=>if (r k).dst=some t then k + 1 else lastW r t k

theorem lastW_le (r:Nat->RO) (t:Nat):∀ i,lastW r t i <= i
 | 0=>Nat.le_refl _
 | k + 1=>by unfold lastW;split;exact Nat.le_refl _;exact Nat.le_succ_of_le (lastW_le r t k)
theorem lastW_spec (r:Nat->RO) (t:Nat):∀ i,(lastW r t i=0\/∃ k,k < i/\lastW r t i=k + 1/\(r k).dst=some t)/\∀ k,lastW r t i <= k->k < i->(r k).dst ≠ some t
 | 0=>⟨.inl rfl,fun k _ h=>by omega⟩
 | i + 1=>by
  obtain ⟨h1,h2⟩:=lastW_spec r t i
  unfold lastW
  split
  ·rename_i e
   exact ⟨.inr ⟨i,by omega,rfl,e⟩,fun k h h'=>by omega⟩
  ·rename_i e
   refine ⟨h1.imp id fun ⟨k,a,b,c⟩=>⟨k,by omega,b,c⟩,fun k h h'=>?_⟩
   by_cases ek:k=i
   ·subst ek;exact e
   ·exact h2 k h (by omega)

structure Ver (n:Nat) (r:Nat->RO) (L:Nat->Prop) (t q:Nat):Prop where
 le:q <= n
 by_:q=0\/∃ k,q=k + 1/\L k/\(r k).dst=some t
 last:∀ j,q <= j->j < n->L j->(r j).dst ≠ some t

section
variable {P:Program} {ops:Array Oper} {N:Nat} {r:Nat->RO} {st:Nat->AState}

theorem rstep_nx {o:Oper} {ro:RO} {s s':AState} (h:RStep P o ro s s'):s.nx <= s'.nx:=by
 cases h with
 | skip h1 h2=>subst h2;exact Nat.le_refl _
 | run h1 he x nbs fz h2=>subst h2;show s.nx <= s.nx + nbs.length;omega
 | eff h1 he h2=>exact h2.nx

theorem rstep_own {o:Oper} {ro:RO} {s s':AState} (h:RStep P o ro s s') (hs:∀ i,s.nx <= i->s.own i=none):∀ i,s'.nx <= i->s'.own i=none:=by
 cases h with
 | skip h1 h2=>subst h2;exact fun i hi=>put_own hs i hi
 | run h1 he x nbs fz h2=>subst h2;exact fun i hi=>put_own hs i hi
 | eff h1 he h2=>exact h2.own hs

theorem rstep_env {o:Oper} {ro:RO} {s s':AState} (h:RStep P o ro s s') {t:Nat} (ht:ro.dst ≠ some t):s'.env t=s.env t:=by
 have put:∀ x nbs fz,(s.put ro.dst x nbs fz).env t=s.env t:=fun x nbs fz=>by
  show setDst s.env ro.dst x t=_
  cases hd:ro.dst with
  | some d =>
   show upd s.env d x t=_
   unfold upd
   rw [if_neg (fun e=>ht (by rw [hd,e]))]
  | none=>rfl
 cases h with
 | skip h1 h2=>subst h2;exact put _ _ _
 | run h1 he x nbs fz h2=>subst h2;exact put _ _ _
 | eff h1 he h2=>exact h2.env t ht

theorem nx_le (hst:∀ i,i < ops.size->∃ o,ops[i]?=some o/\ResO P ops N o (r i)/\RStep P o (r i) (st i) (st (i + 1))):∀ (d i:Nat),i + d <= ops.size->(st i).nx <= (st (i + d)).nx
 | 0,i,_=>Nat.le_refl _
 | d + 1,i,h=>by
  obtain ⟨o,_,_,hs⟩:=hst (i + d) (by omega)
  exact Nat.le_trans (nx_le hst d i (by omega)) (rstep_nx hs)

theorem own_none (hst:∀ i,i < ops.size->∃ o,ops[i]?=some o/\ResO P ops N o (r i)/\RStep P o (r i) (st i) (st (i + 1))) (h0:∀ j,(st 0).nx <= j->(st 0).own j=none):∀ i,i <= ops.size->∀ j,(st i).nx <= j->(st i).own j=none
 | 0,_=>h0
 | i + 1,h=>by
  obtain ⟨o,_,_,hs⟩:=hst i (by omega)
  exact rstep_own hs (own_none hst h0 i (by omega))

theorem lastW_env (hst:∀ i,i < ops.size->∃ o,ops[i]?=some o/\ResO P ops N o (r i)/\RStep P o (r i) (st i) (st (i + 1))) (t:Nat):∀ i,i <= ops.size->(st (lastW r t i)).env t=(st i).env t
 | 0,_=>rfl
 | i + 1,h=>by
  unfold lastW
  split
  ·rfl
  ·rename_i e
   obtain ⟨o,_,_,hs⟩:=hst i (by omega)
   rw [rstep_env hs e]
   exact lastW_env hst t i (by omega)

theorem lk_goes (hst:∀ i,i < ops.size->∃ o,ops[i]?=some o/\ResO P ops N o (r i)/\RStep P o (r i) (st i) (st (i + 1))):∀ (d q:Nat),q + d <= ops.size->(∀ i,q <= i->i < q + d->(r i).op.eff=false) ->
  ∃ hs:List Hd,∀ h,(∀ j,(st q).nx <= j->j < (st (q + d)).nx->h ≠ .O j)->(st (q + d)).lk h=if h ∈ hs then ((st q).lk h).map Blk.frz else (st q).lk h
 | 0,q,_,_=>⟨[],fun h _=>by simp⟩
 | d + 1,q,hn,he=>by
  obtain ⟨hs,ih⟩:=lk_goes hst d q (by omega) (fun i h1 h2=>he i h1 (by omega))
  obtain ⟨o,_,_,hstep⟩:=hst (q + d) (by omega)
  have hnx:=rstep_nx hstep
  have hnx0:=nx_le hst d q (by omega)
  have hold:∀ (h:Hd),(∀ j,(st q).nx <= j->j < (st (q + (d + 1))).nx->h ≠ .O j)->∀ j,(st q).nx <= j->j < (st (q + d)).nx->h ≠ .O j:=fun h hh j h1 h2=>hh j h1 (Nat.lt_of_lt_of_le h2 hnx)
  have key:∀ x nbs fz,st (q + d + 1)=(st (q + d)).put (r (q + d)).dst x nbs fz->∃ hs:List Hd,∀ h,(∀ j,(st q).nx <= j->j < (st (q + (d + 1))).nx->h ≠ .O j)->(st (q + (d + 1))).lk h=if h ∈ hs then ((st q).lk h).map Blk.frz else (st q).lk h:=fun x nbs fz hput=>by
   refine ⟨fz ++ hs,fun h hh=>?_⟩
   have hnew:(st (q + (d + 1))).lk h=lkF (st (q + d)).lk fz h:=by
    show (st (q + d + 1)).lk h=_
    rw [hput,lk_put]
    unfold lkN
    cases h with
    | B i=>rfl
    | O i =>
     simp only
     rw [if_neg (fun hc=>hh i (by omega) (by
      show i < (st (q + d + 1)).nx
      rw [hput];exact hc.2) rfl)]
   rw [hnew]
   unfold lkF
   rw [ih h (hold h hh)]
   by_cases e1:h ∈ fz <;> by_cases e2:h ∈ hs <;> simp [e1,e2]
   cases (st q).lk h <;> simp [Blk.frz_frz]
  cases hstep with
  | skip h1 h2=>exact key _ _ _ h2
  | run h1 he' x nbs fz h2=>exact key _ _ _ h2
  | eff h1 he'=>have:=he (q + d) (by omega) (by omega);rw [this] at he';cases he'

theorem sim_goes (hst:∀ i,i < ops.size->∃ o,ops[i]?=some o/\ResO P ops N o (r i)/\RStep P o (r i) (st i) (st (i + 1))) {G:Gh} {m:HM} {w:World} {q q':Nat} (hq:q <= q') (hn:q' <= ops.size)
  (he:∀ i,q <= i->i < q'->(r i).op.eff=false) (hm:∀ j,(st q).nx <= j->j < (st q').nx->m (.O j)=none) (hS:Sim G m (st q).lk w) :
  ∃ G',Sim G' m (st q').lk w/\Fr (fun _=>False) (Own m) G G' w w:=by
 obtain ⟨d,rfl⟩:∃ d,q'=q + d:=⟨q' - q,by omega⟩
 obtain ⟨hs,hh⟩:=lk_goes hst d q hn he
 obtain ⟨G',h1,h2,h3⟩:=hS.freeze hs
 refine ⟨G',h1.congr (fun x hx=>?_),rfl,.same rfl rfl,rfl,Nat.le_refl _,fun _ _ _=>rfl,fun b _ ho o=>h3 b (fun h _ sz e=>ho (.at_ e)) o,h2⟩
 rw [hh x (fun j a b e=>by subst e;exact hx (hm j a b))]
 rfl

theorem lk_same (hst:∀ i,i < ops.size->∃ o,ops[i]?=some o/\ResO P ops N o (r i)/\RStep P o (r i) (st i) (st (i + 1))):∀ (d q:Nat),q + d <= ops.size->(∀ i,q <= i->i < q + d->(r i).op.eff=false/\(r i).op.ht=false)->(st (q + d)).lk=(st q).lk
 | 0,q,_,_=>rfl
 | d + 1,q,hn,he=>by
  obtain ⟨o,_,_,hs⟩:=hst (q + d) (by omega)
  rw [<- lk_same hst d q (by omega) (fun i h1 h2=>he i h1 (by omega))]
  show (st (q + d + 1)).lk=_
  cases hs with
  | skip h1 h2=>rw [h2,lk_put,lkF_nil,lkN_nil]
  | run h1 he' x nbs fz h2 h3 =>
   obtain ⟨rfl,rfl⟩:=h3 (he (q + d) (by omega) (by omega)).2
   rw [h2,lk_put,lkF_nil,lkN_nil]
  | eff h1 he'=>have:=(he (q + d) (by omega) (by omega)).1;rw [this] at he';cases he'

theorem Sim.know {G:Gh} {m:HM} {lk:Look} {w:World} (hS:Sim G m lk w) {h:Hd} {b sz:Nat} {bl:Blk} (hn:m h=none) (hl:lk h=some bl) (hb:∀ m',BlkRep G m' bl b sz w) (ho:¬ Own m b):Sim G (hmSet m h (.at_ b sz)) lk w:=by
 have hle:=hmSet_le (loc:=.at_ b sz) hn
 refine ⟨fun x b' sz' hm=>?_,fun x hm=>?_,fun x x' l1 l2 b' h1 h2 q1 q2=>?_,hS.gh,fun x hm=>?_,hS.gl,fun x b' sz' fp hm=>?_⟩
 rotate_right
 ·unfold hmSet at hm
  split at hm
  ·cases hm
  ·obtain ⟨bl',g1,g2⟩:=hS.blkx x b' sz' fp hm
   exact ⟨bl',g1,g2.mono (Gh.le.refl G) hle (fun _ _ _=>rfl) (fun _ _=>rfl) (KeepIt.refl _ _)⟩
 ·unfold hmSet at hm
  split at hm
  ·rename_i e;subst e;cases hm;exact ⟨bl,hl,hb _⟩
  ·obtain ⟨bl',g1,g2⟩:=hS.blk x b' sz' hm
   exact ⟨bl',g1,g2.mono (Gh.le.refl G) hle (fun _=>rfl) rfl⟩
 ·unfold hmSet at hm
  split at hm
  ·cases hm
  ·exact hS.nil x hm
 ·unfold hmSet at h1 h2
  split at h1
  ·rename_i e
   cases h1
   split at h2
   ·rename_i e';rw [e,e']
   ·rw [List.mem_singleton.1 q1] at q2;exact absurd ⟨x',l2,h2,q2⟩ ho
  ·split at h2
   ·cases h2;rw [List.mem_singleton.1 q2] at q1;exact absurd ⟨x,l1,h1,q1⟩ ho
   ·exact hS.injG x x' l1 l2 b' h1 h2 q1 q2
 ·unfold hmSet at hm
  split at hm
  ·cases hm
  ·exact hS.dead x hm

def Early (r:Nat->RO) (st:Nat->AState) (e:Nat) (E:Ent) (G:Gh) (m:HM) (a:Act) (w:World):Prop :=
 ∃ t b sz es,(r e).dst=some t/\(st (e + 1)).nx=(st e).nx + 1/\(st (e + 1)).lk (.O (st e).nx)=some (.row true 1 es)/\(st (e + 1)).env t=.eptr (.O (st e).nx) 1 0 0 /\
  (∀ m',BlkRep G m' (.row true 1 es) b sz w)/\E.w0.heap.size <= b/\(¬ Own m b)/\E.val a t=.pointer (some ⟨b,0,none⟩)

structure Inv (P:Program) (ops:Array Oper) (r:Nat->RO) (st:Nat->AState) (e:Nat) (E:Ent) (listed:Array Bool) (a:Act) (w:World):Prop where
 size:listed.size=ops.size
 closed:∀ j,j < ops.size->listed.getD j false=true->∀ e ∈ afterOf ops j,listed.getD e false=true
 main:∃ G m p,p <= ops.size/\(∀ i,i < p->(r i).op.eff=true->listed.getD i false=true)/\(p < ops.size->(r p).op.eff=true/\listed.getD p false=false) /\
  Sim G m (st p).lk w/\(∀ t q,Ver ops.size r (fun i=>listed.getD i false=true) t q->(q=e + 1->e < p)->AV.Rep G m ((st q).env t) (E.val a t))/\a.tmps.size=E.N/\(Marks1 E.dt (E.w0.heap.size + E.sk) E.nd a.defers w/\E.J ((st 0).env E.N) w) /\
  (∀ i,i < ops.size->(listed.getD i false=false\/(i=e/\p <= e))->∀ j,(st i).nx <= j->j < (st (i + 1)).nx->m (.O j)=none)/\(∀ j,(st ops.size).nx <= j->m (.O j)=none) /\
  Fr (Own E.m0) (Own E.m0) E.G0 G E.w0 w/\(∀ i,SameB (E.m0 (.B i)) (m (.B i))) /\
  (∀ h l b,m h=some l->b ∈ l.blks->E.w0.heap.size <= b\/Own E.m0 b) /\
  (e < ops.size->listed.getD e false=true->p <= e->Early r st e E G m a w)

end
end Go.Eng


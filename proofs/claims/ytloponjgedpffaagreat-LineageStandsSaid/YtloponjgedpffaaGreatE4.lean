/- Texts of this claim. -/
import Derived.Test.YtloponjgedpffaaGreatE3
set_option linter.all false
set_option linter.unusedSimpArgs false
set_option linter.unusedVariables false
namespace Go.Eng
open Go.RowKit

mutual
theorem AV.ren_rep {G:Gh} {m m':HM} {ψ:Hd->Hd} (hψ:∀ h loc,m h=some loc->m' (ψ h)=some loc):∀ (a:AV) (v:Value),AV.Rep G m a v->AV.Rep G m' (AV.ren ψ a) v
 | .D _,_,q=>by unfold AV.ren;unfold AV.Rep at q |-;exact q
 | .any,_,_=>by unfold AV.ren AV.Rep;trivial
 | .yld _,_,q=>by unfold AV.ren;unfold AV.Rep at q |-;exact q
 | .gst _,_,_=>by unfold AV.ren AV.Rep;trivial
 | .sc,_,q=>by unfold AV.ren;unfold AV.Rep at q |-;exact q
 | .ab,_,q=>by unfold AV.ren;unfold AV.Rep at q |-;exact q
 | .ptr h off,_,q=>by
  unfold AV.ren;unfold AV.Rep at q |-
  obtain ⟨h0,loc,h1,h2⟩:=q
  exact ⟨h0,loc,hψ h loc h1,h2⟩
 | .eptr h k ix off,_,q=>by
  unfold AV.ren;unfold AV.Rep at q |-
  obtain ⟨h0,loc,h1,h2⟩:=q
  exact ⟨h0,loc,hψ h loc h1,h2⟩
 | .rop _,_,q=>by unfold AV.ren;unfold AV.Rep at q |-;exact q
 | .fl _,_,q=>by unfold AV.ren;unfold AV.Rep at q |-;exact q
 | .sl h k off len,_,q=>by
  unfold AV.ren;unfold AV.Rep at q |-
  obtain ⟨h0,loc,h1,h2⟩:=q
  exact ⟨h0,loc,hψ h loc h1,h2⟩
 | .slk h k off len cap,_,q=>by
  unfold AV.ren;unfold AV.Rep at q |-
  obtain ⟨h0,loc,h1,h2⟩:=q
  exact ⟨h0,loc,hψ h loc h1,h2⟩
 | .mref h,_,q=>by
  unfold AV.ren;unfold AV.Rep at q |-
  obtain ⟨h0,loc,h1,h2⟩:=q
  exact ⟨h0,loc,hψ h loc h1,h2⟩
 | .itr hm h,_,q=>by
  unfold AV.ren;unfold AV.Rep at q |-
  obtain ⟨h0,⟨l,g⟩,loc,h1,h2⟩:=q
  exact ⟨h0,⟨l,hψ hm l g⟩,loc,hψ h loc h1,h2⟩
 | .nsl h k off len,_,q=>by
  unfold AV.ren;unfold AV.Rep at q |-
  obtain ⟨h0,loc,h1,h2⟩:=q
  exact ⟨h0,loc,hψ h loc h1,h2⟩
 | .nptr h k ix off,_,q=>by
  unfold AV.ren;unfold AV.Rep at q |-
  obtain ⟨h0,loc,h1,h2⟩:=q
  exact ⟨h0,loc,hψ h loc h1,h2⟩
 | .agg cs,_,q=>by
  unfold AV.ren;unfold AV.Rep at q |-
  obtain ⟨vs,h1,h2⟩:=q
  exact ⟨vs,h1,AV.renL_rep hψ cs _ h2⟩
 | .tup cs,_,q=>by
  unfold AV.ren;unfold AV.Rep at q |-
  obtain ⟨vs,h1,h2⟩:=q
  exact ⟨vs,h1,AV.renL_rep hψ cs _ h2⟩
 | .clo f cs,_,q=>by
  unfold AV.ren;unfold AV.Rep at q |-
  obtain ⟨vs,h1,h2⟩:=q
  exact ⟨vs,h1,AV.renL_rep hψ cs _ h2⟩
theorem AV.renL_rep {G:Gh} {m m':HM} {ψ:Hd->Hd} (hψ:∀ h loc,m h=some loc->m' (ψ h)=some loc):∀ (as:List AV) (vs:List Value),AV.RepL G m as vs->AV.RepL G m' (AV.renL ψ as) vs
 | [],_,q=>by unfold AV.renL;unfold AV.RepL at q |-;exact q
 | a :: as,_,q=>by
  unfold AV.renL;unfold AV.RepL at q |-
  obtain ⟨v,vs',h1,h2,h3⟩:=q
  exact ⟨v,vs',h1,AV.ren_rep hψ a v h2,AV.renL_rep hψ as vs' h3⟩
end
theorem BlkRep.ren {G:Gh} {m m':HM} {ψ:Hd->Hd} (hψ:∀ h loc,m h=some loc->m' (ψ h)=some loc) {bl:Blk} {b sz:Nat} {w:World} (h:BlkRep G m bl b sz w):BlkRep G m' (bl.ren ψ) b sz w:=by
 match bl,h with
 | .box cs,h =>
  unfold Blk.ren
  unfold BlkRep at h |-
  obtain ⟨vs,T,h1,h2,h3,h4⟩:=h
  exact ⟨vs,T,h1,h2,AV.renL_rep hψ _ _ h3,h4⟩
 | .row true k es,h=>unfold Blk.ren;unfold BlkRep at h |-;exact h
 | .row false k es,h=>unfold Blk.ren;unfold BlkRep at h |-;exact h
 | .nst _ _,h=>unfold BlkRep at h;exact h.elim
 | .mp _ _ _,h=>unfold BlkRep at h;exact h.elim
 | .it,h=>unfold BlkRep at h;exact h.elim
theorem ItRep.ren {G:Gh} {m m':HM} {ψ:Hd->Hd} (hψ:∀ h loc,m h=some loc->m' (ψ h)=some loc) {i:Option (Hd × List AV × List AV)} {b:Nat} {arr:Array MapEntry} {clk:Nat} {w:World} (h:ItRep G m i b arr clk w):ItRep G m' (i.map fun p=>(ψ p.1,p.2)) b arr clk w:=fun hi rem e=>by
 rw [Option.map_eq_some_iff] at e
 obtain ⟨⟨h3,r3⟩,e3,e4⟩:=e
 cases e4
 obtain ⟨loc,h4,h5⟩:=h h3 r3 e3
 exact ⟨loc,hψ _ _ h4,h5⟩
theorem ItRep.conv {G:Gh} {m m':HM} {φ:Hd->Option Hd} (hφ:∀ h h' loc,φ h=some h'->m h=some loc->m' h'=some loc) {i:Option (Hd × List AV × List AV)} {b:Nat} {arr:Array MapEntry} {clk:Nat} {w:World} (h:ItRep G m i b arr clk w):ItRep G m' (i.bind fun p=>(φ p.1).map fun h=>(h,p.2)) b arr clk w:=fun hi rem e=>by
 rw [Option.bind_eq_some_iff] at e
 obtain ⟨⟨h3,r3⟩,e3,e4⟩:=e
 rw [Option.map_eq_some_iff] at e4
 obtain ⟨h6,e5,e6⟩:=e4
 cases e6
 obtain ⟨loc,h4,h5⟩:=h h3 r3 e3
 exact ⟨loc,hφ _ _ _ e5 h4,h5⟩
theorem BlkX.ren {G:Gh} {m m':HM} {ψ:Hd->Hd} (hψ:∀ h loc,m h=some loc->m' (ψ h)=some loc) {bl:Blk} {b sz:Nat} {fp:List Nat} {w:World} (h:BlkX G m bl b sz fp w):BlkX G m' (bl.ren ψ) b sz fp w:=by
 match bl,h with
 | .box cs,h=>unfold BlkX at h;exact h.elim
 | .row _ _ _,h=>unfold BlkX at h;exact h.elim
 | .nst _ _,h=>unfold Blk.ren;unfold BlkX at h |-;exact h
 | .mp _ _ _,h =>
  unfold Blk.ren
  unfold BlkX at h |-
  obtain ⟨h0,h0',arr,clk,h1,h2,h3,h4,h5⟩:=h
  exact ⟨h0,h0',arr,clk,h1,h2,h3,h4,h5.ren hψ⟩
 | .it,h=>unfold Blk.ren;unfold BlkX at h |-;exact h
theorem BlkX.conv {G:Gh} {m m':HM} {lk:Look} {φ:Hd->Option Hd} (hφ:∀ h h' loc,φ h=some h'->m h=some loc->m' h'=some loc) {bl:Blk} {b sz:Nat} {fp:List Nat} {w:World} (h:BlkX G m bl b sz fp w):BlkX G m' (bl.conv lk φ) b sz fp w:=by
 match bl,h with
 | .box cs,h=>unfold BlkX at h;exact h.elim
 | .row _ _ _,h=>unfold BlkX at h;exact h.elim
 | .nst _ _,h=>unfold Blk.conv;unfold BlkX at h |-;exact h
 | .mp _ _ _,h =>
  unfold Blk.conv
  unfold BlkX at h |-
  obtain ⟨h0,h0',arr,clk,h1,h2,h3,h4,h5⟩:=h
  exact ⟨h0,h0',arr,clk,h1,h2,h3,h4,h5.conv hφ⟩
 | .it,h=>unfold Blk.conv;unfold BlkX at h |-;exact h
theorem sl_content {G:Gh} {m:HM} {lk:Look} {w:World} (hS:Sim G m lk w) {h:Hd} {k off len:Nat} {v:Value} {loc:Loc} (hm:m h=some loc) (hr:loc ≠ .dead->slRep loc k off len v)
  {mt:Bool} {k':Nat} {es:List (List DV)} (hl:lk h=some (.row mt k' es)) (hk:k'=k/\off + len <= es.length) (hmt:mt=false):DV.Rep G (.L ((es.drop off).take len)) v:=by
 obtain ⟨rfl,hlen⟩:=hk
 subst hmt
 have hnd:loc ≠ .dead:=fun e=>by subst e;rw [hS.dead h hm] at hl;cases hl
 have hL:((es.drop off).take len).length=len:=by simp;omega
 unfold DV.Rep
 rcases hr hnd with ⟨a,rfl,rfl⟩ | ⟨b,sz,cap,rfl,rfl,hcap,hsz⟩
 ·refine ⟨a,0,by simp,by simp,fun _=>rfl,fun h=>absurd (by simp) h⟩
 ·obtain ⟨bl,hl',hb⟩:=hS.blk h b sz hm
  rw [hl] at hl'
  cases hl'
  unfold BlkRep at hb
  obtain ⟨vs,T,h1,h2,h3,h4,h5⟩:=hb
  refine ⟨some ⟨b,off * k',none⟩,cap,by rw [hL],by omega,(fun h=>by cases h),fun _=>⟨b,off * k',k',rfl,?_⟩⟩
  have:=DV.rows_take len (DV.rows_drop off h4)
  simpa using this
mutual
theorem AV.conv_rep {G:Gh} {m mc:HM} {lk lk':Look} {w:World} {φ:Hd->Option Hd} (hS:Sim G m lk' w) (hs:∀ h mt k es,lk h=some (.row mt k es)->∃ mt',lk' h=some (.row mt' k es)) (hφ:∀ h h' loc,φ h=some h'->m h=some loc->mc h'=some loc) :
  ∀ (a:AV) (v:Value),(∀ h ∈ AV.rows a,∀ mt k es,φ h=none->(lk h).isSome=true->lk' h=some (.row mt k es)->mt=false)->AV.Rep G m a v->AV.Rep G mc (AV.conv lk φ a) v
 | .D _,_,_,q=>by unfold AV.conv;unfold AV.Rep at q |-;exact q
 | .any,_,_,_=>by unfold AV.conv AV.Rep;trivial
 | .yld _,_,_,q=>by unfold AV.conv;unfold AV.Rep at q |-;exact q
 | .gst _,_,_,_=>by unfold AV.conv AV.Rep;trivial
 | .sc,_,_,q=>by unfold AV.conv;unfold AV.Rep at q |-;exact q
 | .ab,_,_,q=>by unfold AV.conv;unfold AV.Rep at q |-;exact q
 | .ptr h off,_,_,q=>by
  unfold AV.conv;unfold AV.Rep at q
  obtain ⟨h0,loc,h1,h2⟩:=q
  split
  ·unfold AV.Rep;exact ⟨h0,loc,hφ _ _ _ ‹_› h1,h2⟩
  ·unfold AV.Rep;exact h0
 | .eptr h k ix off,_,_,q=>by
  unfold AV.conv;unfold AV.Rep at q
  obtain ⟨h0,loc,h1,h2⟩:=q
  split
  ·unfold AV.Rep;exact ⟨h0,loc,hφ _ _ _ ‹_› h1,h2⟩
  ·unfold AV.Rep;exact h0
 | .rop _,_,_,q=>by unfold AV.conv;unfold AV.Rep at q |-;exact q
 | .fl _,_,_,q=>by unfold AV.conv;unfold AV.Rep at q |-;exact q.1
 | .sl h k off len,v,hr,q=>by
  unfold AV.conv;unfold AV.Rep at q
  obtain ⟨h0,loc,h1,h2⟩:=q
  split
  ·unfold AV.Rep;exact ⟨h0,loc,hφ _ _ _ ‹_› h1,h2⟩
  ·rename_i hn
   split
   ·rename_i mt k' es hl
    split
    ·rename_i hk
     unfold AV.Rep
     obtain ⟨mt',hl'⟩:=hs _ _ _ _ hl
     exact sl_content hS h1 h2 hl' hk (hr h (by simp [AV.rows]) mt' k' es hn (by rw [hl];rfl) hl')
    ·unfold AV.Rep;exact h0
   ·unfold AV.Rep;exact h0
 | .slk h k off len cap,v,hr,q=>by
  unfold AV.conv;unfold AV.Rep at q
  obtain ⟨h0,loc,h1,h2⟩:=q
  split
  ·unfold AV.Rep;exact ⟨h0,loc,hφ _ _ _ ‹_› h1,h2⟩
  ·rename_i hn
   split
   ·rename_i mt k' es hl
    split
    ·rename_i hk
     unfold AV.Rep
     obtain ⟨mt',hl'⟩:=hs _ _ _ _ hl
     exact sl_content hS h1 (fun hd=>slk_sl (h2 hd)) hl' hk (hr h (by simp [AV.rows]) mt' k' es hn (by rw [hl];rfl) hl')
    ·unfold AV.Rep;exact h0
   ·unfold AV.Rep;exact h0
 | .mref h,_,_,q=>by
  unfold AV.conv;unfold AV.Rep at q
  obtain ⟨h0,loc,h1,h2⟩:=q
  split
  ·unfold AV.Rep;exact ⟨h0,loc,hφ _ _ _ ‹_› h1,h2⟩
  ·unfold AV.Rep;exact h0
 | .itr hm h,_,_,q=>by
  unfold AV.conv;unfold AV.Rep at q
  obtain ⟨h0,⟨l,g⟩,loc,h1,h2⟩:=q
  split
  ·rename_i hm' h' e1 e2
   unfold AV.Rep;exact ⟨h0,⟨l,hφ _ _ _ e1 g⟩,loc,hφ _ _ _ e2 h1,h2⟩
  ·unfold AV.Rep;exact h0
 | .nsl h _ _ _,_,_,q=>by
  unfold AV.conv;unfold AV.Rep at q
  obtain ⟨h0,loc,h1,h2⟩:=q
  split
  ·unfold AV.Rep;exact ⟨h0,loc,hφ _ _ _ ‹_› h1,h2⟩
  ·unfold AV.Rep;exact h0
 | .nptr h _ _ _,_,_,q=>by
  unfold AV.conv;unfold AV.Rep at q
  obtain ⟨h0,loc,h1,h2⟩:=q
  split
  ·unfold AV.Rep;exact ⟨h0,loc,hφ _ _ _ ‹_› h1,h2⟩
  ·unfold AV.Rep;exact h0
 | .agg cs,_,hr,q=>by
  unfold AV.conv;unfold AV.Rep at q |-
  obtain ⟨vs,h1,h2⟩:=q
  exact ⟨vs,h1,AV.convL_rep hS hs hφ cs _ (fun h hh=>hr h (by unfold AV.rows;exact hh)) h2⟩
 | .tup cs,_,hr,q=>by
  unfold AV.conv;unfold AV.Rep at q |-
  obtain ⟨vs,h1,h2⟩:=q
  exact ⟨vs,h1,AV.convL_rep hS hs hφ cs _ (fun h hh=>hr h (by unfold AV.rows;exact hh)) h2⟩
 | .clo f cs,_,hr,q=>by
  unfold AV.conv;unfold AV.Rep at q |-
  obtain ⟨vs,h1,h2⟩:=q
  exact ⟨vs,h1,AV.convL_rep hS hs hφ cs _ (fun h hh=>hr h (by unfold AV.rows;exact hh)) h2⟩
theorem AV.convL_rep {G:Gh} {m mc:HM} {lk lk':Look} {w:World} {φ:Hd->Option Hd} (hS:Sim G m lk' w) (hs:∀ h mt k es,lk h=some (.row mt k es)->∃ mt',lk' h=some (.row mt' k es)) (hφ:∀ h h' loc,φ h=some h'->m h=some loc->mc h'=some loc) :
  ∀ (as:List AV) (vs:List Value),(∀ h ∈ AV.rowsL as,∀ mt k es,φ h=none->(lk h).isSome=true->lk' h=some (.row mt k es)->mt=false)->AV.RepL G m as vs->AV.RepL G mc (AV.convL lk φ as) vs
 | [],_,_,q=>by unfold AV.convL;unfold AV.RepL at q |-;exact q
 | a :: as,_,hr,q=>by
  unfold AV.convL;unfold AV.RepL at q |-
  obtain ⟨v,vs',h1,h2,h3⟩:=q
  exact ⟨v,vs',h1,AV.conv_rep hS hs hφ a v (fun h hh=>hr h (by simp [AV.rowsL,hh])) h2,AV.convL_rep hS hs hφ as vs' (fun h hh=>hr h (by simp [AV.rowsL,hh])) h3⟩
end
def LkSame (lk lk':Look):Prop:=∀ h bl,lk h=some bl->∃ bl',lk' h=some bl'/\(bl'=bl\/bl'=bl.frz)
theorem LkSame.refl (lk:Look):LkSame lk lk:=fun _ bl h=>⟨bl,h,.inl rfl⟩
theorem LkSame.row {lk lk':Look} (h:LkSame lk lk'):∀ x mt k es,lk x=some (.row mt k es)->∃ mt',lk' x=some (.row mt' k es):=fun x mt k es hx=>by
 obtain ⟨bl',h1,rfl | rfl⟩:=h x _ hx
 ·exact ⟨_,h1⟩
 ·exact ⟨_,h1⟩
theorem LkSame.box {lk lk':Look} (h:LkSame lk lk'):∀ x cs,lk x=some (.box cs)->lk' x=some (.box cs):=fun x cs hx=>by
 obtain ⟨bl',h1,rfl | rfl⟩:=h x _ hx <;> exact h1
theorem DV.flat_rep {G G':Gh} {d:DV} {v:Value} (hf:d.flat=true) (h:DV.Rep G d v):DV.Rep G' d v:=by
 cases d <;> first | (unfold DV.Rep at h |-;exact h) | cases hf
mutual
theorem AV.flat_rep {G G':Gh} {m m':HM}:∀ (a:AV) (v:Value),AV.flat a=true->AV.Rep G m a v->AV.Rep G' m' a v
 | .D x,v,hf,h=>by unfold AV.Rep at h |-;exact DV.flat_rep (by simpa [AV.flat] using hf) h
 | .any,_,_,_=>by unfold AV.Rep;trivial
 | .yld _,_,_,h=>by unfold AV.Rep at h |-;exact h
 | .gst _,_,_,_=>by unfold AV.Rep;trivial
 | .sc,_,_,h=>by unfold AV.Rep at h |-;exact h
 | .ab,_,_,h=>by unfold AV.Rep at h |-;exact h
 | .ptr _ _,_,hf,_=>by simp [AV.flat] at hf
 | .eptr _ _ _ _,_,hf,_=>by simp [AV.flat] at hf
 | .rop _,_,hf,_=>by simp [AV.flat] at hf
 | .fl _,_,hf,_=>by simp [AV.flat] at hf
 | .sl _ _ _ _,_,hf,_=>by simp [AV.flat] at hf
 | .slk _ _ _ _ _,_,hf,_=>by simp [AV.flat] at hf
 | .mref _,_,hf,_=>by simp [AV.flat] at hf
 | .itr _ _,_,hf,_=>by simp [AV.flat] at hf
 | .nsl _ _ _ _,_,hf,_=>by simp [AV.flat] at hf
 | .nptr _ _ _ _,_,hf,_=>by simp [AV.flat] at hf
 | .agg cs,_,hf,h=>by
  unfold AV.Rep at h |-
  obtain ⟨vs,h1,h2⟩:=h
  exact ⟨vs,h1,AV.flatL_rep cs _ (by simpa [AV.flat] using hf) h2⟩
 | .tup cs,_,hf,h=>by
  unfold AV.Rep at h |-
  obtain ⟨vs,h1,h2⟩:=h
  exact ⟨vs,h1,AV.flatL_rep cs _ (by simpa [AV.flat] using hf) h2⟩
 | .clo _ _,_,hf,_=>by simp [AV.flat] at hf
theorem AV.flatL_rep {G G':Gh} {m m':HM}:∀ (as:List AV) (vs:List Value),AV.flatL as=true->AV.RepL G m as vs->AV.RepL G' m' as vs
 | [],_,_,h=>by unfold AV.RepL at h |-;exact h
 | a :: as,_,hf,h=>by
  simp only [AV.flatL,Bool.and_eq_true] at hf
  unfold AV.RepL at h |-
  obtain ⟨v,vs',h1,h2,h3⟩:=h
  exact ⟨v,vs',h1,AV.flat_rep a v hf.1 h2,AV.flatL_rep as vs' hf.2 h3⟩
end
theorem AV.flat_ren {ψ:Hd->Hd}:∀ (a:AV),AV.flat a=true->AV.ren ψ a=a:=by
 intro a
 apply AV.rec (motive_1:=fun a=>AV.flat a=true->AV.ren ψ a=a) (motive_2:=fun as=>AV.flatL as=true->AV.renL ψ as=as)
 all_goals intros
 all_goals simp_all [AV.flat,AV.ren,AV.flatL,AV.renL]

def PPost (G:Gh) (m:HM) (lk:Look) (n:Nat) (a:AV) (nbs:List Blk) (fz:List Hd) (w:World) (v:Value) (w':World):Prop :=
 ∃ G' m',Sim G' m' (lkN (lkF lk fz) n nbs) w'/\AV.Rep G' m' a v/\Fr (fun _=>False) (Own m) G G' w w' /\
  (∀ h,(∀ j,j < nbs.length->h ≠ .O (n + j))->m' h=m h)/\(∀ j l b,j < nbs.length->m' (.O (n + j))=some l->b ∈ l.blks->w.heap.size <= b)

theorem lkN_nil (lk:Look) (n:Nat):lkN lk n []=lk:=by
 funext h
 cases h with
 | B i=>rfl
 | O i=>simp only [lkN,List.length_nil,Nat.add_zero];rw [if_neg (by omega)]
theorem lkF_nil (lk:Look):lkF lk []=lk:=by funext h;simp [lkF]

theorem PPost.val {G:Gh} {m:HM} {lk:Look} {n:Nat} {a:AV} {w:World} {v:Value} (hS:Sim G m lk w) (h:AV.Rep G m a v):PPost G m lk n a [] [] w v w :=
 ⟨G,m,by rw [lkN_nil,lkF_nil];exact hS,h,Fr.refl _ _ _ _,fun _ _=>rfl,fun j _ _ hj=>by simp at hj⟩

theorem Gh_new {G:Gh} {m:HM} {lk:Look} {w:World} (hS:Sim G m lk w) {b:Nat} (hb:w.heap.size <= b) (o:Nat):G b o=none:=by
 cases h:G b o with
 | none=>rfl
 | some v =>
  have:=hS.gh b o v h
  have hlt:=World.block_lt_of_cell? w _ this
  exact absurd hlt (by simp;omega)

theorem Fr.alloc {oh og:Nat->Prop} {G:Gh} {w:World} (o:Obj):Fr oh og G G w (w.alloc o) :=
 ⟨rfl,.same rfl rfl,rfl,by simp,fun b hb _=>heap_alloc_old w o hb,fun _ _ _ _=>rfl,Gh.le.refl G⟩

theorem BlkRep.lt {G:Gh} {m:HM} {bl:Blk} {b sz:Nat} {w:World} (hb:BlkRep G m bl b sz w):b < w.heap.size:=by
 cases bl with
 | box cs=>unfold BlkRep at hb;obtain ⟨vs,T,h1,_⟩:=hb;exact (Array.getElem?_eq_some_iff.1 h1).1
 | row mt k es=>cases mt <;> (unfold BlkRep at hb;obtain ⟨vs,T,h1,_⟩:=hb;exact (Array.getElem?_eq_some_iff.1 h1).1)
 | _=>unfold BlkRep at hb;exact hb.elim
theorem Sim.alloc {G:Gh} {m:HM} {lk:Look} {w:World} (hS:Sim G m lk w) (o:Obj):Sim G m lk (w.alloc o):=by
 refine ⟨fun h b sz hm=>?_,hS.nil,hS.injG,fun b o' v hv=>?_,hS.dead,hS.gl,fun h b sz fp hm=>?_⟩
 rotate_left 2
 ·obtain ⟨bl,hl,hb⟩:=hS.blkx h b sz fp hm
  exact ⟨bl,hl,hb.mono (Gh.le.refl G) (HM.le.refl m) (fun _ _ _=>rfl) (fun c hc=>heap_alloc_old w o (hb.lt c hc)) (.all fun b hb=>heap_alloc_old w o hb)⟩
 ·obtain ⟨bl,hl,hb⟩:=hS.blk h b sz hm
  have hlt:b < w.heap.size:=hb.lt
  exact ⟨bl,hl,hb.mono (Gh.le.refl G) (HM.le.refl m) (fun _=>rfl) (heap_alloc_old w o hlt)⟩
 ·have:=hS.gh b o' v hv
  have hlt:=World.block_lt_of_cell? w _ this
  rw [World.cell?_alloc_lt w o _ hlt];exact this

theorem Sim.lt {G:Gh} {m:HM} {lk:Look} {w:World} (hS:Sim G m lk w) {h:Hd} {b sz:Nat} (hm:m h=some (.at_ b sz)):b < w.heap.size:=by
 obtain ⟨bl,hl,hb⟩:=hS.blk h b sz hm
 exact hb.lt
theorem Sim.ltG {G:Gh} {m:HM} {lk:Look} {w:World} (hS:Sim G m lk w) {h:Hd} {l:Loc} {b:Nat} (hm:m h=some l) (hb:b ∈ l.blks):b < w.heap.size:=by
 cases l with
 | dead=>cases hb
 | none=>cases hb
 | at_ b' sz=>rw [List.mem_singleton.1 hb];exact hS.lt hm
 | atx b' sz fp =>
  obtain ⟨bl,hl,hb'⟩:=hS.blkx h b' sz fp hm
  exact hb'.lt b hb

def hmSet (m:HM) (h:Hd) (loc:Loc):HM:=fun x=>if x=h then some loc else m x
theorem hmSet_le {m:HM} {h:Hd} {loc:Loc} (hn:m h=none):HM.le m (hmSet m h loc):=fun x l hx=>.inl (.inl (by
 unfold hmSet
 split
 ·rename_i e;subst e;rw [hn] at hx;cases hx
 ·exact hx))

theorem PPost.newG {G:Gh} {m:HM} {lk:Look} {n:Nat} {w:World} (hS:Sim G m lk w) (hn:m (.O n)=none) (bl:Blk) (ob:Obj) (loc:Loc) (hloc:loc.blks=[w.heap.size])
  (hbl:∀ m',HM.le m m'->(∀ b sz,loc=.at_ b sz->BlkRep G m' bl b sz (w.alloc ob))/\∀ b sz fp,loc=.atx b sz fp->BlkX G m' bl b sz fp (w.alloc ob)) {a:AV} {v:Value}
  (ha:∀ m',HM.le m m'->m' (.O n)=some loc->AV.Rep G m' a v) :
  PPost G m lk n a [bl] [] w v (w.alloc ob):=by
 have hle:=hmSet_le (loc:=loc) hn
 have hS':=hS.alloc ob
 have hld:∀ h,h ≠ .O n->lkN (lkF lk []) n [bl] h=lk h:=fun h e=>by
  rw [lkF_nil]
  unfold lkN
  cases h with
  | B i=>rfl
  | O i =>
   have hi:i ≠ n:=fun e'=>e (by rw [e'])
   simp only [List.length_cons,List.length_nil]
   rw [if_neg (by omega)]
 have hlo:lkN (lkF lk []) n [bl] (.O n)=some bl:=by simp [lkN]
 refine ⟨G,hmSet m (.O n) loc,⟨?_,?_,?_,hS'.gh,?_,hS'.gl,?_⟩,ha _ hle (by simp [hmSet]),Fr.alloc _,?_,?_⟩
 ·intro h b sz hm
  unfold hmSet at hm
  split at hm
  ·rename_i e
   subst e
   cases hm
   exact ⟨bl,hlo,(hbl _ hle).1 _ _ rfl⟩
  ·rename_i e
   obtain ⟨bl',hl,hb⟩:=hS'.blk h b sz hm
   exact ⟨bl',by rw [hld h e];exact hl,hb.mono (Gh.le.refl G) hle (fun _=>rfl) rfl⟩
 ·intro h hm
  unfold hmSet at hm
  split at hm
  ·cases hm;cases hloc
  ·rename_i e
   obtain ⟨mt,k,hl⟩:=hS.nil h hm
   exact ⟨mt,k,by rw [hld h e];exact hl⟩
 ·intro h h' l l' b hm hm' hb hb'
  unfold hmSet at hm hm'
  split at hm <;> split at hm'
  ·rename_i e e';rw [e,e']
  ·rename_i e e'
   cases hm
   rw [hloc,List.mem_singleton] at hb
   have:=hS.ltG hm' hb'
   omega
  ·rename_i e e'
   cases hm'
   rw [hloc,List.mem_singleton] at hb'
   have:=hS.ltG hm hb
   omega
  ·exact hS.injG h h' l l' b hm hm' hb hb'
 ·intro h hm
  unfold hmSet at hm
  split at hm
  ·cases hm;cases hloc
  ·rename_i e
   rw [hld h e];exact hS.dead _ hm
 ·intro h b sz fp hm
  unfold hmSet at hm
  split at hm
  ·rename_i e
   subst e
   cases hm
   exact ⟨bl,hlo,(hbl _ hle).2 _ _ _ rfl⟩
  ·rename_i e
   obtain ⟨bl',hl,hb⟩:=hS'.blkx h b sz fp hm
   exact ⟨bl',by rw [hld h e];exact hl,hb.mono (Gh.le.refl G) hle (fun _ _ _=>rfl) (fun _ _=>rfl) (KeepIt.refl _ _)⟩
 ·intro h hh
  unfold hmSet
  rw [if_neg (by have:=hh 0 (by simp);simpa using this)]
 ·intro j l b hj hm hb
  have:j=0:=by simpa using hj
  subst this
  simp [hmSet] at hm
  rw [<- hm,hloc,List.mem_singleton] at hb
  omega
theorem PPost.new {G:Gh} {m:HM} {lk:Look} {n:Nat} {w:World} (hS:Sim G m lk w) (hn:m (.O n)=none) (bl:Blk) (vs:Array Value) (T:TypeId)
  (hbl:∀ m',HM.le m m'->BlkRep G m' bl w.heap.size vs.size (w.alloc (.cells vs T))) {a:AV} {v:Value}
  (ha:∀ m',HM.le m m'->m' (.O n)=some (.at_ w.heap.size vs.size)->AV.Rep G m' a v) :
  PPost G m lk n a [bl] [] w v (w.alloc (.cells vs T)) :=
 PPost.newG hS hn bl _ (.at_ w.heap.size vs.size) rfl (fun m' hm=>⟨fun b sz e=>by cases e;exact hbl m' hm,fun _ _ _ e=>by cases e⟩) ha

theorem pcallX {X:(Array Value)->World->(Value->World->Prop)->Prop} (hX:∀ {vs:Array Value} {w:World} {R R':Value->World->Prop},X vs w R->(∀ v w',R v w'->R' v w')->X vs w R') {args:List AV} {r:AV} {nbs:List Blk} {lk:Look}
  (hc:∀ (w:World) (G:Gh) (m:HM) (vs:Array Value),Sim G m (lkOf [] []) w->(∀ i,m (.O i)=none)->AV.RepL G m (AV.convL lk (fun _=>none) args) vs.toList->X vs w fun v w'=>APost w G m (lkOf [] nbs) r v w')
  {G:Gh} {m:HM} {lk2:Look} {w:World} {vs:Array Value} {n:Nat} (hl:LkSame lk lk2) (hS:Sim G m lk2 w) (hrep:AV.RepL G m args vs.toList) (hn:∀ j,j < nbs.length->m (.O (n + j))=none) :
  X vs w fun v w' =>
   PPost G m lk2 n (AV.ren (backHd [] n) r) (nbs.map (Blk.ren (backHd [] n))) (if AV.flat r=true/\nbs=[] then [] else fzL lk (AV.rowsL args)) w v w':=by
 obtain ⟨G1,hS1,hle1,hG1⟩:=hS.freeze (fzL lk (AV.rowsL args))
 have hrep1:AV.RepL G1 (fun _=>none) (AV.convL lk (fun _=>none) args) vs.toList:=by
  refine AV.convL_rep (lk:=lk) hS1 (fun h mt k es hh=>?_) (fun h h' loc hh=>by cases hh) args _ (fun h hh mt k es _ hsome hrow=>?_) (AV.RepL.mono hle1 (HM.le.refl m) _ _ hrep)
  ·obtain ⟨mt',h2⟩:=hl.row h mt k es hh
   unfold lkF
   split
   ·exact ⟨false,by rw [h2];rfl⟩
   ·exact ⟨mt',h2⟩
  ·unfold lkF at hrow
   rw [if_pos (mem_fzL hh hsome)] at hrow
   cases hx:lk2 h with
   | none=>rw [hx] at hrow;cases hrow
   | some bl =>
    rw [hx] at hrow
    cases bl with
    | box cs=>cases hrow
    | row mt' k' es'=>cases hrow;rfl
    | nst _ _=>cases hrow
    | mp _ _ _=>cases hrow
    | it=>cases hrow
 have h0:Sim G1 (fun _=>none) (lkOf [] []) w:=⟨(fun _ _ _ h=>by cases h),(fun _ h=>by cases h),(fun _ _ _ _ _ h=>by cases h),hS1.gh,(fun _ h=>by cases h),hS1.gl,(fun _ _ _ _ h=>by cases h)⟩
 refine hX (hc w G1 (fun _=>none) vs h0 (fun _=>rfl) hrep1) fun v w' h=>?_
 obtain ⟨G2,m2,hS2,hr2,hfr,hB,hO,hO3⟩:=h
 have hnoOwn:∀ b,¬ Own (fun _=>none) b:=Own.no
 have hBn:∀ i,m2 (.B i)=none:=fun i=>by
  rcases hB i with h | ⟨h,_⟩ | ⟨_,_,_,_,h,_⟩
  ·exact h
  ·exact absurd rfl h
  ·cases h
 by_cases hf:AV.flat r=true/\nbs=[]
 · -- nothing is left of the call
  obtain ⟨hflat,rfl⟩:=hf
  rw [if_pos ⟨hflat,rfl⟩]
  have hren:AV.ren (backHd [] n) r=r:=AV.flat_ren r hflat
  rw [hren]
  refine ⟨G,m,?_,AV.flat_rep r v hflat hr2,⟨hfr.os,hfr.tape,hfr.output,hfr.size,fun b hb _=>hfr.heap b hb (hnoOwn b),fun _ _ _ _=>rfl,Gh.le.refl G⟩,fun _ _=>rfl,fun j _ _ hj=>by simp at hj⟩
  rw [List.map_nil,lkN_nil,lkF_nil]
  refine ⟨fun h b sz hm=>?_,hS.nil,hS.injG,fun b o u hu=>?_,hS.dead,hS.gl,fun h b sz fp hm=>?_⟩
  rotate_left 2
  ·obtain ⟨bl,hl',hb⟩:=hS.blkx h b sz fp hm
   exact ⟨bl,hl',hb.mono (Gh.le.refl G) (HM.le.refl m) (fun _ _ _=>rfl) (fun c hc=>hfr.heap c (hb.lt c hc) (hnoOwn c)) (.all fun b hb=>hfr.heap b hb (hnoOwn b))⟩
  ·obtain ⟨bl,hl',hb⟩:=hS.blk h b sz hm
   exact ⟨bl,hl',hb.mono (Gh.le.refl G) (HM.le.refl m) (fun _=>rfl) (hfr.heap b (hS.lt hm) (hnoOwn b))⟩
  ·have h1:=hS.gh b o u hu
   have hlt:=World.block_lt_of_cell? w _ h1
   rw [World.cell?_of_block (w:=w) (hfr.heap b hlt (hnoOwn b))];exact h1
 ·rw [if_neg hf]
  let m':HM:=fun h=>match h with
   | .B i=>m (.B i)
   | .O i=>if n <= i/\i < n + nbs.length then m2 (.O (i - n)) else m (.O i)
  have hm'old:∀ h,(∀ j,j < nbs.length->h ≠ .O (n + j))->m' h=m h:=fun h hh=>by
   cases h with
   | B i=>rfl
   | O i =>
    show (if n <= i/\i < n + nbs.length then m2 (.O (i - n)) else m (.O i))=_
    rw [if_neg (fun hc=>hh (i - n) (by omega) (by rw [show n + (i - n)=i by omega]))]
  have hm'new:∀ j,j < nbs.length->m' (.O (n + j))=m2 (.O j):=fun j hj=>by
   show (if n <= n + j/\n + j < n + nbs.length then m2 (.O (n + j - n)) else m (.O (n + j)))=_
   rw [if_pos ⟨by omega,by omega⟩,Nat.add_sub_cancel_left]
  have hle':HM.le m m':=fun h loc hh=>.inl (.inl (by
   rw [hm'old h (fun j hj e=>by subst e;rw [hn j hj] at hh;cases hh)];exact hh))
  have hO2:∀ i loc,m2 (.O i)=some loc->i < nbs.length:=fun i loc hi=>by
   cases hx:nbs[i]? with
   | none=>rw [hO3 i hx] at hi;cases hi
   | some bl=>exact (List.getElem?_eq_some_iff.1 hx).1
  have hback:∀ h loc,m2 h=some loc->m' (backHd [] n h)=some loc:=fun h loc hh=>by
   cases h with
   | B i=>rw [hBn i] at hh;cases hh
   | O i=>show m' (.O (n + i))=_;rw [hm'new i (hO2 i loc hh)];exact hh
  have hsplit:∀ h loc,m' h=some loc->(m h=some loc/\(∀ j,j < nbs.length->h ≠ .O (n + j)))\/(∃ j,j < nbs.length/\h=.O (n + j)/\m2 (.O j)=some loc):=fun h loc hh=>by
   by_cases hc:∃ j,j < nbs.length/\h=.O (n + j)
   ·obtain ⟨j,hj,rfl⟩:=hc
    rw [hm'new j hj] at hh
    exact .inr ⟨j,hj,rfl,hh⟩
   ·have hc':∀ j,j < nbs.length->h ≠ .O (n + j):=fun j hj e=>hc ⟨j,hj,e⟩
    rw [hm'old h hc'] at hh
    exact .inl ⟨hh,hc'⟩
  have hlkOld:∀ h,(∀ j,j < nbs.length->h ≠ .O (n + j))->lkN (lkF lk2 (fzL lk (AV.rowsL args))) n (nbs.map (Blk.ren (backHd [] n))) h=lkF lk2 (fzL lk (AV.rowsL args)) h:=fun h hh=>by
   cases h with
   | B i=>rfl
   | O i =>
    simp only [lkN,List.length_map]
    rw [if_neg (fun hc=>hh (i - n) (by omega) (by rw [show n + (i - n)=i by omega]))]
  have hlkNew:∀ j bl,nbs[j]?=some bl->lkN (lkF lk2 (fzL lk (AV.rowsL args))) n (nbs.map (Blk.ren (backHd [] n))) (.O (n + j))=some (bl.ren (backHd [] n)):=fun j bl hj=>by
   have hlt:=(List.getElem?_eq_some_iff.1 hj).1
   simp only [lkN,List.length_map]
   rw [if_pos ⟨by omega,by omega⟩,Nat.add_sub_cancel_left,List.getElem?_map,hj];rfl
  have hsz:∀ j l b,m2 (.O j)=some l->b ∈ l.blks->w.heap.size <= b:=fun j l b h hb=>by
   rcases hO (.O j) l b h hb with h | h
   ·exact h
   ·exact absurd h (hnoOwn b)
  refine ⟨G2,m',⟨?_,?_,?_,hS2.gh,?_,hS2.gl,?_⟩,AV.ren_rep hback r v hr2,?_,fun h hh=>hm'old h (by simpa using hh),fun j l b hj h hb=>?_⟩
  ·intro h b sz hh
   rcases hsplit h _ hh with ⟨h1,h2⟩ | ⟨j,hj,rfl,h1⟩
   ·obtain ⟨bl,hl',hb⟩:=hS1.blk h b sz h1
    rw [hlkOld h h2]
    exact ⟨bl,hl',hb.mono hfr.le hle' (fun o=>hfr.gh b (hS1.lt h1) (hnoOwn b) o) (hfr.heap b (hS1.lt h1) (hnoOwn b))⟩
   ·obtain ⟨bl,hl',hb⟩:=hS2.blk _ b sz h1
    exact ⟨_,hlkNew j bl hl',hb.ren hback⟩
  ·intro h hh
   rcases hsplit h _ hh with ⟨h1,h2⟩ | ⟨j,hj,rfl,h1⟩
   ·obtain ⟨mt,k,hl'⟩:=hS1.nil h h1
    rw [hlkOld h h2]
    exact ⟨mt,k,hl'⟩
   ·obtain ⟨mt,k,hl'⟩:=hS2.nil _ h1
    exact ⟨mt,k,hlkNew j _ hl'⟩
  ·intro h h' l l' b hh hh' hb hb'
   rcases hsplit h _ hh with ⟨h1,h2⟩ | ⟨j,hj,rfl,h1⟩ <;> rcases hsplit h' _ hh' with ⟨h1',h2'⟩ | ⟨j',hj',rfl,h1'⟩
   ·exact hS.injG h h' l l' b h1 h1' hb hb'
   ·have:=hS.ltG h1 hb;have:=hsz j' l' b h1' hb';omega
   ·have:=hS.ltG h1' hb';have:=hsz j l b h1 hb;omega
   ·have:=hS2.injG _ _ l l' b h1 h1' hb hb'
    cases this;rfl
  ·intro h hh
   rcases hsplit h _ hh with ⟨h1,h2⟩ | ⟨j,hj,rfl,h1⟩
   ·rw [hlkOld h h2];exact hS1.dead h h1
   ·have:=hS2.dead _ h1
    have hx:nbs[j]?=none:=this
    rw [List.getElem?_eq_none_iff] at hx
    omega
  ·intro h b sz fp hh
   rcases hsplit h _ hh with ⟨h1,h2⟩ | ⟨j,hj,rfl,h1⟩
   ·obtain ⟨bl,hl',hb⟩:=hS1.blkx h b sz fp h1
    rw [hlkOld h h2]
    exact ⟨bl,hl',hb.mono hfr.le hle' (fun c hc o=>hfr.gh c (hb.lt c hc) (hnoOwn c) o) (fun c hc=>hfr.heap c (hb.lt c hc) (hnoOwn c)) (.all fun b hb=>hfr.heap b hb (hnoOwn b))⟩
   ·obtain ⟨bl,hl',hb⟩:=hS2.blkx _ b sz fp h1
    exact ⟨_,hlkNew j bl hl',hb.ren hback⟩
  ·refine ⟨hfr.os,hfr.tape,hfr.output,hfr.size,fun b hb _=>hfr.heap b hb (hnoOwn b),fun b hb ho o=>?_,hle1.trans hfr.le⟩
   rw [hfr.gh b hb (hnoOwn b) o,hG1 b (fun h hh sz e=>ho (.at_ e)) o]
  ·rw [List.length_map] at hj
   rw [hm'new j hj] at h
   exact hsz j l b h hb

theorem pcall {P:Program} {fn:FuncId} {args:List AV} {r:AV} {nbs:List Blk} {lk:Look} (hc:ACall P fn (AV.convL lk (fun _=>none) args) [] r [] nbs)
  {G:Gh} {m:HM} {lk2:Look} {w:World} {vs:Array Value} {n:Nat} (hl:LkSame lk lk2) (hS:Sim G m lk2 w) (hrep:AV.RepL G m args vs.toList) (hn:∀ j,j < nbs.length->m (.O (n + j))=none) :
  CallDoes P fn vs w fun v w' =>
   PPost G m lk2 n (AV.ren (backHd [] n) r) (nbs.map (Blk.ren (backHd [] n))) (if AV.flat r=true/\nbs=[] then [] else fzL lk (AV.rowsL args)) w v w' :=
 pcallX (X:=CallDoes P fn) CallDoes.mono hc hl hS hrep hn
theorem ppan {P:Program} {fn:FuncId} {args:List AV} {pv:Value} {lk:Look} (hc:APan P fn (AV.convL lk (fun _=>none) args) pv)
  {G:Gh} {m:HM} {lk2:Look} {w:World} {vs:Array Value} {n:Nat} (hl:LkSame lk lk2) (hS:Sim G m lk2 w) (hrep:AV.RepL G m args vs.toList) :
  PanDoes P fn pv vs w fun v w'=>PPost G m lk2 n .any [] [] w v w':=by
 have h:=pcallX (X:=PanDoes P fn pv) PanDoes.mono (r:=.any) (nbs:=[]) (n:=n) hc hl hS hrep (fun j hj=>by simp at hj)
 rwa [if_pos ⟨rfl,rfl⟩] at h

end Go.Eng


/- Texts of this claim. -/
import Derived.Test.YtkfcmelpadbdcaaGreatDoorE2
set_option linter.all false
set_option linter.unusedSimpArgs false
set_option linter.unusedVariables false
namespace Go.Eng
open Go.RowKit

theorem DV.cells_get {G:Gh} {f:Nat->Option Value}:∀ {ds:List DV} {o j:Nat} {d:DV},DV.cells G f o ds->ds[j]?=some d->∃ v,f (o + j)=some v/\DV.Rep G d v
 | [],_,_,_,_,h=>by simp at h
 | x :: ds,o,0,d,q,h=>by
  unfold DV.cells at q
  simp at h;subst h
  simpa using q.1
 | x :: ds,o,j + 1,d,q,h=>by
  unfold DV.cells at q
  simp at h
  have:=DV.cells_get q.2 h
  rwa [show o + 1 + j=o + (j + 1) by omega] at this

theorem DV.cells_drop {G:Gh} {f:Nat->Option Value}:∀ {ds:List DV} {o:Nat} (n:Nat),DV.cells G f o ds->DV.cells G f (o + n) (ds.drop n)
 | ds,o,0,q=>by simpa using q
 | [],o,n + 1,_=>by simp [DV.cells]
 | x :: ds,o,n + 1,q=>by
  unfold DV.cells at q
  have:=DV.cells_drop (G:=G) (f:=f) n q.2
  simp only [List.drop_succ_cons]
  rwa [show o + 1 + n=o + (n + 1) by omega] at this

theorem DV.cells_take {G:Gh} {f:Nat->Option Value}:∀ {ds:List DV} {o:Nat} (n:Nat),DV.cells G f o ds->DV.cells G f o (ds.take n)
 | ds,o,0,_=>by simp [DV.cells]
 | [],o,n + 1,_=>by simp [DV.cells]
 | x :: ds,o,n + 1,q=>by
  unfold DV.cells at q
  simp only [List.take_succ_cons]
  unfold DV.cells
  exact ⟨q.1,DV.cells_take n q.2⟩

theorem DV.cells_append {G:Gh} {f:Nat->Option Value}:∀ {xs ys:List DV} {o:Nat},DV.cells G f o xs->DV.cells G f (o + xs.length) ys->DV.cells G f o (xs ++ ys)
 | [],ys,o,_,h=>by simpa using h
 | x :: xs,ys,o,q,h=>by
  unfold DV.cells at q
  simp only [List.cons_append]
  unfold DV.cells
  refine ⟨q.1,DV.cells_append q.2 ?_⟩
  rwa [show o + 1 + xs.length=o + (x :: xs).length by simp;omega]

theorem DV.rows_get {G:Gh} {f:Nat->Option Value} {k:Nat}:∀ {es:List (List DV)} {o j:Nat} {e:List DV},DV.rows G f k o es->es[j]?=some e->e.length=k/\DV.cells G f (o + j * k) e
 | [],_,_,_,_,h=>by simp at h
 | x :: es,o,0,e,q,h=>by
  unfold DV.rows at q
  simp at h;subst h
  exact ⟨q.1,by simpa using q.2.1⟩
 | x :: es,o,j + 1,e,q,h=>by
  unfold DV.rows at q
  simp at h
  have:=DV.rows_get q.2.2 h
  rwa [show o + k + j * k=o + (j + 1) * k by rw [Nat.add_mul];omega] at this

theorem DV.rows_drop {G:Gh} {f:Nat->Option Value} {k:Nat}:∀ {es:List (List DV)} {o:Nat} (n:Nat),DV.rows G f k o es->DV.rows G f k (o + n * k) (es.drop n)
 | es,o,0,q=>by simpa using q
 | [],o,n + 1,_=>by simp [DV.rows]
 | x :: es,o,n + 1,q=>by
  unfold DV.rows at q
  have:=DV.rows_drop (G:=G) (f:=f) n q.2.2
  simp only [List.drop_succ_cons]
  rwa [show o + k + n * k=o + (n + 1) * k by rw [Nat.add_mul];omega] at this

theorem DV.rows_take {G:Gh} {f:Nat->Option Value} {k:Nat}:∀ {es:List (List DV)} {o:Nat} (n:Nat),DV.rows G f k o es->DV.rows G f k o (es.take n)
 | es,o,0,_=>by simp [DV.rows]
 | [],o,n + 1,_=>by simp [DV.rows]
 | x :: es,o,n + 1,q=>by
  unfold DV.rows at q
  simp only [List.take_succ_cons]
  unfold DV.rows
  exact ⟨q.1,q.2.1,DV.rows_take n q.2.2⟩

theorem DV.rows_append {G:Gh} {f:Nat->Option Value} {k:Nat}:∀ {xs ys:List (List DV)} {o:Nat},DV.rows G f k o xs->DV.rows G f k (o + xs.length * k) ys->DV.rows G f k o (xs ++ ys)
 | [],ys,o,_,h=>by simpa using h
 | x :: xs,ys,o,q,h=>by
  unfold DV.rows at q
  simp only [List.cons_append]
  unfold DV.rows
  refine ⟨q.1,q.2.1,DV.rows_append q.2.2 ?_⟩
  rwa [show o + k + xs.length * k=o + (x :: xs).length * k by simp [Nat.add_mul];omega]

theorem DV.rows_lengths {G:Gh} {f:Nat->Option Value} {k:Nat} {es:List (List DV)} {o:Nat} (h:DV.rows G f k o es):∀ e ∈ es,e.length=k:=by
 intro e he
 obtain ⟨j,hj⟩:=List.getElem?_of_mem he
 exact (DV.rows_get h hj).1

theorem DV.cells_congr {G:Gh} {f f':Nat->Option Value}:∀ {ds:List DV} {o o':Nat},(∀ i,i < ds.length->f' (o' + i)=f (o + i))->DV.cells G f o ds->DV.cells G f' o' ds
 | [],_,_,_,_=>by simp [DV.cells]
 | x :: ds,o,o',hf,q=>by
  unfold DV.cells at q |-
  refine ⟨?_,DV.cells_congr (o:=o + 1) (o':=o' + 1) (fun i hi=>?_) q.2⟩
  ·have:=hf 0 (by simp)
   simp at this
   rw [this];exact q.1
  ·have:=hf (i + 1) (by simp;omega)
   rwa [show o' + 1 + i=o' + (i + 1) by omega,show o + 1 + i=o + (i + 1) by omega]

theorem DV.rows_congr {G:Gh} {f f':Nat->Option Value} {k:Nat}:∀ {es:List (List DV)} {o o':Nat},(∀ i,i < es.length * k->f' (o' + i)=f (o + i))->DV.rows G f k o es->DV.rows G f' k o' es
 | [],_,_,_,_=>by simp [DV.rows]
 | x :: es,o,o',hf,q=>by
  unfold DV.rows at q |-
  refine ⟨q.1,DV.cells_congr (fun i hi=>hf i ?_) q.2.1,DV.rows_congr (o:=o + k) (o':=o' + k) (fun i hi=>?_) q.2.2⟩
  ·have:(x :: es).length * k=es.length * k + k:=by simp [Nat.add_mul]
   omega
  ·have h1:(x :: es).length * k=es.length * k + k:=by simp [Nat.add_mul]
   have:=hf (k + i) (by omega)
   rwa [show o' + k + i=o' + (k + i) by omega,show o + k + i=o + (k + i) by omega]

theorem AV.RepL_length {G:Gh} {m:HM}:∀ {as:List AV} {vs:List Value},AV.RepL G m as vs->as.length=vs.length
 | [],vs,h=>by unfold AV.RepL at h;simp [h]
 | a :: as,vs,h=>by
  unfold AV.RepL at h
  obtain ⟨v,vs',rfl,_,h3⟩:=h
  simp [AV.RepL_length h3]

theorem AV.RepL_get {G:Gh} {m:HM}:∀ {as:List AV} {vs:List Value} {j:Nat} {a:AV},AV.RepL G m as vs->as[j]?=some a->∃ v,vs[j]?=some v/\AV.Rep G m a v
 | [],_,_,_,_,h=>by simp at h
 | x :: as,vs,0,a,q,h=>by
  unfold AV.RepL at q
  obtain ⟨v,vs',rfl,h2,h3⟩:=q
  simp at h;subst h
  exact ⟨v,rfl,h2⟩
 | x :: as,vs,j + 1,a,q,h=>by
  unfold AV.RepL at q
  obtain ⟨v,vs',rfl,h2,h3⟩:=q
  simp at h
  simpa using AV.RepL_get h3 h

theorem AV.RepL_append {G:Gh} {m:HM}:∀ {as bs:List AV} {vs us:List Value},AV.RepL G m as vs->AV.RepL G m bs us->AV.RepL G m (as ++ bs) (vs ++ us)
 | [],bs,vs,us,h,h'=>by unfold AV.RepL at h;subst h;simpa using h'
 | a :: as,bs,vs,us,h,h'=>by
  unfold AV.RepL at h
  obtain ⟨v,vs',rfl,h2,h3⟩:=h
  simp only [List.cons_append]
  unfold AV.RepL
  exact ⟨v,_,rfl,h2,AV.RepL_append h3 h'⟩

theorem AV.RepL_drop {G:Gh} {m:HM}:∀ {as:List AV} {vs:List Value} (n:Nat),AV.RepL G m as vs->AV.RepL G m (as.drop n) (vs.drop n)
 | as,vs,0,h=>by simpa using h
 | [],vs,n + 1,h=>by unfold AV.RepL at h;subst h;simp [AV.RepL]
 | a :: as,vs,n + 1,h=>by
  unfold AV.RepL at h
  obtain ⟨v,vs',rfl,h2,h3⟩:=h
  simpa using AV.RepL_drop n h3

theorem AV.RepL_take {G:Gh} {m:HM}:∀ {as:List AV} {vs:List Value} (n:Nat),AV.RepL G m as vs->AV.RepL G m (as.take n) (vs.take n)
 | as,vs,0,h=>by simp [AV.RepL]
 | [],vs,n + 1,h=>by unfold AV.RepL at h;subst h;simp [AV.RepL]
 | a :: as,vs,n + 1,h=>by
  unfold AV.RepL at h
  obtain ⟨v,vs',rfl,h2,h3⟩:=h
  simp only [List.take_succ_cons]
  unfold AV.RepL
  exact ⟨v,_,rfl,h2,AV.RepL_take n h3⟩

theorem AV.RepL_map {G:Gh} {m:HM} {ev:Operand->AV} {ρ:Operand->Value}:∀ {xs:List Operand},(∀ x ∈ xs,AV.Rep G m (ev x) (ρ x))->AV.RepL G m (xs.map ev) (xs.map ρ)
 | [],_=>by simp [AV.RepL]
 | x :: xs,h=>by
  simp only [List.map_cons]
  unfold AV.RepL
  exact ⟨_,_,rfl,h x (by simp),AV.RepL_map (fun y hy=>h y (by simp [hy]))⟩

theorem AV.RepL_const {G:Gh} {m:HM}:∀ (vs:List Value),AV.RepL G m (vs.map constAV) vs
 | []=>by simp [AV.RepL]
 | v :: vs=>by
  simp only [List.map_cons]
  unfold AV.RepL
  exact ⟨v,vs,rfl,constAV_rep G m v,AV.RepL_const vs⟩

theorem AV.RepL_data {G:Gh} {m:HM} {f:Nat->Option Value}:∀ {ds:List DV} {vs:List Value} {o:Nat},DV.cells G f o ds->(∀ j,j < ds.length->f (o + j)=vs[j]?)->vs.length=ds.length->AV.RepL G m (ds.map .D) vs
 | [],vs,o,_,_,hl=>by
  have:vs=[]:=by simpa using hl
  subst this;simp [AV.RepL]
 | d :: ds,vs,o,q,hf,hl=>by
  match vs,hl with
  | v :: vs,hl =>
   unfold DV.cells at q
   obtain ⟨⟨u,hu,hr⟩,q2⟩:=q
   have h0:=hf 0 (by simp)
   simp at h0
   rw [h0] at hu
   cases hu
   simp only [List.map_cons]
   unfold AV.RepL
   refine ⟨v,vs,rfl,by unfold AV.Rep;exact hr,AV.RepL_data (o:=o + 1) q2 (fun j hj=>?_) (by simpa using hl)⟩
   have:=hf (j + 1) (by simp;omega)
   simpa [show o + 1 + j=o + (j + 1) by omega] using this

theorem AV.Rep_data {G:Gh} {m:HM}:∀ {cs:List AV} {vs:List Value} {ds:List DV},AV.RepL G m cs vs->AV.data cs=some ds->∀ (f:Nat->Option Value) (o:Nat),(∀ j,j < vs.length->f (o + j)=vs[j]?)->DV.cells G f o ds
 | [],vs,ds,h,hd,f,o,_=>by
  unfold AV.data at hd
  cases hd
  simp [DV.cells]
 | .D x :: r,vs,ds,h,hd,f,o,hf=>by
  unfold AV.RepL at h
  obtain ⟨v,vs',rfl,h2,h3⟩:=h
  unfold AV.data at hd
  cases hr:AV.data r with
  | none=>rw [hr] at hd;cases hd
  | some ds' =>
   rw [hr] at hd
   cases hd
   unfold DV.cells
   refine ⟨⟨v,by have:=hf 0 (by simp);simpa using this,by unfold AV.Rep at h2;exact h2⟩,AV.Rep_data h3 hr f (o + 1) (fun j hj=>?_)⟩
   have:=hf (j + 1) (by simp;omega)
   simpa [show o + 1 + j=o + (j + 1) by omega] using this
 | .any :: _,_,_,_,hd,_,_,_=>by unfold AV.data at hd;cases hd
 | .yld _ :: _,_,_,_,hd,_,_,_=>by unfold AV.data at hd;cases hd
 | .gst _ :: _,_,_,_,hd,_,_,_=>by unfold AV.data at hd;cases hd
 | .ptr _ _ :: _,_,_,_,hd,_,_,_=>by unfold AV.data at hd;cases hd
 | .eptr _ _ _ _ :: _,_,_,_,hd,_,_,_=>by unfold AV.data at hd;cases hd
 | .rop _ :: _,_,_,_,hd,_,_,_=>by unfold AV.data at hd;cases hd
 | .fl _ :: _,_,_,_,hd,_,_,_=>by unfold AV.data at hd;cases hd
 | .slk _ _ _ _ _ :: _,_,_,_,hd,_,_,_=>by unfold AV.data at hd;cases hd
 | .sl _ _ _ _ :: _,_,_,_,hd,_,_,_=>by unfold AV.data at hd;cases hd
 | .agg _ :: _,_,_,_,hd,_,_,_=>by unfold AV.data at hd;cases hd
 | .tup _ :: _,_,_,_,hd,_,_,_=>by unfold AV.data at hd;cases hd
 | .clo _ _ :: _,_,_,_,hd,_,_,_=>by unfold AV.data at hd;cases hd

theorem AV.one_spec {G:Gh} {m:HM} {a:AV} {v:Value} (ha:a.one=true) (h:AV.Rep G m a v):v.oneCell'=true:=by
 cases a with
 | D x =>
  unfold AV.Rep at h
  cases x with
  | B _=>unfold DV.Rep at h;subst h;rfl
  | I _ _=>unfold DV.Rep at h;subst h;rfl
  | S _=>unfold DV.Rep at h;subst h;rfl
  | C _=>unfold DV.Rep at h;subst h;simpa [AV.one] using ha
  | L es=>unfold DV.Rep at h;obtain ⟨a,cap,rfl,_⟩:=h;rfl
 | any=>cases ha
 | agg _=>cases ha
 | tup _=>cases ha
 | sc=>simpa [AV.Rep] using h
 | ab=>unfold AV.Rep at h;obtain ⟨_,rfl⟩:=h;rfl
 | ptr _ _=>unfold AV.Rep at h;exact h.1
 | eptr _ _ _ _=>unfold AV.Rep at h;exact h.1
 | sl _ _ _ _=>unfold AV.Rep at h;exact h.1
 | slk _ _ _ _ _=>unfold AV.Rep at h;exact h.1
 | rop _=>unfold AV.Rep at h;obtain ⟨_,_,rfl,_⟩:=h;rfl
 | fl _=>unfold AV.Rep at h;obtain ⟨_,_,rfl⟩:=h;rfl
 | clo _ _=>unfold AV.Rep at h;obtain ⟨_,rfl,_⟩:=h;rfl
 | yld _=>unfold AV.Rep at h;subst h;rfl
 | gst _=>cases ha
 | mref _=>unfold AV.Rep at h;exact h.1
 | itr _ _=>unfold AV.Rep at h;exact h.1
 | nsl _ _ _ _=>unfold AV.Rep at h;exact h.1
 | nptr _ _ _ _=>unfold AV.Rep at h;exact h.1

theorem oneCell_cells {v:Value} (h:v.oneCell'=true):v.cells=#[v]:=by cases v <;> first | rfl | cases h

theorem AV.allOne_spec {G:Gh} {m:HM}:∀ {as:List AV} {vs:List Value},AV.allOne as=true->AV.RepL G m as vs->∀ v ∈ vs,v.oneCell'=true
 | [],vs,_,h=>by unfold AV.RepL at h;subst h;simp
 | a :: as,vs,ha,h=>by
  unfold AV.RepL at h
  obtain ⟨v,vs',rfl,h2,h3⟩:=h
  simp only [AV.allOne,Bool.and_eq_true] at ha
  intro u hu
  rcases List.mem_cons.1 hu with rfl | hu
  ·exact AV.one_spec ha.1 h2
  ·exact AV.allOne_spec ha.2 h3 u hu

theorem AV.Rep_cells {G:Gh} {m:HM} {a:AV} {v:Value} {cs:List AV} (ha:a.cells?=some cs) (h:AV.Rep G m a v) :
  AV.RepL G m cs v.cells.toList/\∀ u ∈ v.cells,u.oneCell'=true:=by
 unfold AV.cells? at ha
 split at ha
 ·split at ha
  ·rename_i _ cs' hone
   cases ha
   unfold AV.Rep at h
   obtain ⟨vs,rfl,h2⟩:=h
   exact ⟨by simpa [Value.cells] using h2,fun u hu=>AV.allOne_spec hone h2 u (by simpa [Value.cells] using hu)⟩
  ·cases ha
 ·split at ha
  ·rename_i hone
   cases ha
   have:=AV.one_spec hone h
   rw [oneCell_cells this]
   refine ⟨by simp [AV.RepL];exact h,fun u hu=>?_⟩
   have:u=v:=by simpa using hu
   subst this;assumption
  ·cases ha

theorem BlkRep.mono {G G':Gh} {m m':HM} {bl:Blk} {b sz:Nat} {w w':World} (h:BlkRep G m bl b sz w) (hG:Gh.le G G') (hm:HM.le m m') (hb:∀ o,G' b o=G b o) (hw:w'.heap[b]?=w.heap[b]?) :
  BlkRep G' m' bl b sz w':=by
 match bl,h with
 | .box cs,h =>
  unfold BlkRep at h |-
  obtain ⟨vs,T,h1,h2,h3,h4⟩:=h
  exact ⟨vs,T,hw.trans h1,h2,AV.RepL.mono hG hm _ _ h3,fun o=>(hb o).trans (h4 o)⟩
 | .row true k es,h =>
  unfold BlkRep at h |-
  obtain ⟨vs,T,h1,h2,h3,h4,h5⟩:=h
  exact ⟨vs,T,hw.trans h1,h2,h3,DV.rows.mono hG (fun _ _ h=>h) _ _ _ h4,fun o=>(hb o).trans (h5 o)⟩
 | .row false k es,h =>
  unfold BlkRep at h |-
  obtain ⟨vs,T,h1,h2,h3,h4,h5⟩:=h
  exact ⟨vs,T,hw.trans h1,h2,h3,DV.rows.mono hG (fun i v=>hG b i v) _ _ _ h4,fun o ho=>(hb o).trans (h5 o ho)⟩

theorem OwnRep.mono {G G':Gh} (hG:Gh.le G G') {mt:Bool} {k:Nat} {es:List (List DV)} {v:Value} {f:List Nat} {w w':World} (h:OwnRep G mt k es v f w) (hb:∀ c ∈ f,∀ o,G' c o=G c o) (hw:∀ c ∈ f,w'.heap[c]?=w.heap[c]?):OwnRep G' mt k es v f w':=by
 rcases h with h | ⟨b,sz,cap,rfl,h2,h3,h4,h5⟩
 ·exact .inl h
 ·exact .inr ⟨b,sz,cap,rfl,h2,h3,h4,h5.mono hG (HM.le.refl _) (hb b (by simp)) (hw b (by simp))⟩
theorem OwnRep.lt {G:Gh} {mt:Bool} {k:Nat} {es:List (List DV)} {v:Value} {f:List Nat} {w:World} (h:OwnRep G mt k es v f w):∀ c ∈ f,∃ vs T,w.heap[c]?=some (.cells vs T (0,0)):=by
 rcases h with ⟨_,_,_,rfl⟩ | ⟨b,sz,cap,rfl,h2,h3,h4,h5⟩
 ·intro c hc;cases hc
 ·intro c hc
  rw [List.mem_singleton.1 hc]
  cases mt <;> (unfold BlkRep at h5;obtain ⟨vs,T,h1,_⟩:=h5;exact ⟨vs,T,h1⟩)
theorem SbRep.mono {G G':Gh} (hG:Gh.le G G') {Te:TypeId} {es:List (List DV)} {v:Value} {f:List Nat} {w w':World} (h:SbRep G Te es v f w) (hb:∀ c ∈ f,∀ o,G' c o=G c o) (hw:∀ c ∈ f,w'.heap[c]?=w.heap[c]?):SbRep G' Te es v f w':=by
 rcases h with h | ⟨g,cap,rfl,h2,h3,h4,h5,vs,h6⟩
 ·exact .inl h
 ·exact .inr ⟨g,cap,rfl,h2,h3,h4,h5.mono hG (HM.le.refl _) (hb g (by simp)) (hw g (by simp)),vs,(hw g (by simp)).trans h6⟩
theorem SbRep.lt {G:Gh} {Te:TypeId} {es:List (List DV)} {v:Value} {f:List Nat} {w:World} (h:SbRep G Te es v f w):∀ c ∈ f,∃ vs T,w.heap[c]?=some (.cells vs T (0,0)):=by
 rcases h with ⟨_,_,rfl⟩ | ⟨g,cap,rfl,h2,h3,h4,h5,vs,h6⟩
 ·intro c hc;cases hc
 ·intro c hc
  rw [List.mem_singleton.1 hc]
  exact ⟨vs,Te,h6⟩
theorem ND.Rep.mono {G G':Gh} (hG:Gh.le G G') {d:ND} {v:Value} {f:List Nat} {w w':World} (h:ND.Rep G d v f w) (hb:∀ c ∈ f,∀ o,G' c o=G c o) (hw:∀ c ∈ f,w'.heap[c]?=w.heap[c]?):ND.Rep G' d v f w':=by
 cases d with
 | d x=>exact ⟨h.1,DV.Rep.mono hG _ _ h.2⟩
 | o mt k es=>exact OwnRep.mono hG h hb hw
 | hole=>exact h
theorem ND.Rep.lt {G:Gh} {d:ND} {v:Value} {f:List Nat} {w:World} (h:ND.Rep G d v f w):∀ c ∈ f,∃ vs T,w.heap[c]?=some (.cells vs T (0,0)):=by
 cases d with
 | d x=>rw [h.1];intro c hc;cases hc
 | o mt k es=>exact OwnRep.lt h
 | hole=>rw [h.1];intro c hc;cases hc
theorem NDcells.mono {G G':Gh} (hG:Gh.le G G') {g:Nat->Option Value} {w w':World}:∀ {ds:List ND} {o:Nat} {f:List Nat},NDcells G g o ds f w->(∀ c ∈ f,∀ o,G' c o=G c o)->(∀ c ∈ f,w'.heap[c]?=w.heap[c]?)->NDcells G' g o ds f w'
 | [],_,_,h,_,_=>h
 | d :: ds,o,_,h,hb,hw=>by
  obtain ⟨v,f,fp',h1,rfl,h2,h3⟩:=h
  exact ⟨v,f,fp',h1,rfl,h2.mono hG (fun c hc=>hb c (List.mem_append_left _ hc)) (fun c hc=>hw c (List.mem_append_left _ hc)),
   h3.mono hG (fun c hc=>hb c (List.mem_append_right _ hc)) (fun c hc=>hw c (List.mem_append_right _ hc))⟩
theorem NDcells.lt {G:Gh} {g:Nat->Option Value} {w:World}:∀ {ds:List ND} {o:Nat} {f:List Nat},NDcells G g o ds f w->∀ c ∈ f,∃ vs T,w.heap[c]?=some (.cells vs T (0,0))
 | [],_,_,h,c,hc=>by rw [show _=[] from h] at hc;cases hc
 | d :: ds,o,_,h,c,hc=>by
  obtain ⟨v,f,fp',h1,rfl,h2,h3⟩:=h
  rcases List.mem_append.1 hc with hc | hc
  ·exact h2.lt c hc
  ·exact h3.lt c hc
theorem NDrows.mono {G G':Gh} (hG:Gh.le G G') {g:Nat->Option Value} {k:Nat} {w w':World}:∀ {es:List (List ND)} {o:Nat} {f:List Nat},NDrows G g k o es f w->(∀ c ∈ f,∀ o,G' c o=G c o)->(∀ c ∈ f,w'.heap[c]?=w.heap[c]?)->NDrows G' g k o es f w'
 | [],_,_,h,_,_=>h
 | e :: es,o,_,h,hb,hw=>by
  obtain ⟨h0,f,fp',rfl,h2,h3⟩:=h
  exact ⟨h0,f,fp',rfl,h2.mono hG (fun c hc=>hb c (List.mem_append_left _ hc)) (fun c hc=>hw c (List.mem_append_left _ hc)),
   h3.mono hG (fun c hc=>hb c (List.mem_append_right _ hc)) (fun c hc=>hw c (List.mem_append_right _ hc))⟩
theorem NDrows.lt {G:Gh} {g:Nat->Option Value} {k:Nat} {w:World}:∀ {es:List (List ND)} {o:Nat} {f:List Nat},NDrows G g k o es f w->∀ c ∈ f,∃ vs T,w.heap[c]?=some (.cells vs T (0,0))
 | [],_,_,h,c,hc=>by rw [show _=[] from h] at hc;cases hc
 | e :: es,o,_,h,c,hc=>by
  obtain ⟨h0,f,fp',rfl,h2,h3⟩:=h
  rcases List.mem_append.1 hc with hc | hc
  ·exact h2.lt c hc
  ·exact h3.lt c hc
theorem MV.Rep.mono {G G':Gh} (hG:Gh.le G G') {d:MV} {v:Value} {f:List Nat} {w w':World} (h:MV.Rep G d v f w) (hb:∀ c ∈ f,∀ o,G' c o=G c o) (hw:∀ c ∈ f,w'.heap[c]?=w.heap[c]?):MV.Rep G' d v f w':=by
 cases d with
 | v a=>exact ⟨h.1,AV.Rep.mono hG (HM.le.refl _) _ _ h.2⟩
 | o k es=>exact OwnRep.mono hG h hb hw
 | ow k es=>exact OwnRep.mono hG h hb hw
theorem MV.Rep.lt {G:Gh} {d:MV} {v:Value} {f:List Nat} {w:World} (h:MV.Rep G d v f w):∀ c ∈ f,∃ vs T,w.heap[c]?=some (.cells vs T (0,0)):=by
 cases d with
 | v a=>rw [h.1];intro c hc;cases hc
 | o k es=>exact OwnRep.lt h
 | ow k es=>exact OwnRep.lt h
theorem EntsRep.mono {G G':Gh} (hG:Gh.le G G') {w w':World}:∀ {es:List (AV × MV)} {xs:List MapEntry} {f:List Nat},EntsRep G es xs f w->(∀ c ∈ f,∀ o,G' c o=G c o)->(∀ c ∈ f,w'.heap[c]?=w.heap[c]?)->EntsRep G' es xs f w'
 | [],_,_,h,_,_=>h
 | e :: es,_,_,h,hb,hw=>by
  obtain ⟨x,xs',f,fp',h1,rfl,h2,h3,h4⟩:=h
  exact ⟨x,xs',f,fp',h1,rfl,AV.Rep.mono hG (HM.le.refl _) _ _ h2,h3.mono hG (fun c hc=>hb c (List.mem_append_left _ hc)) (fun c hc=>hw c (List.mem_append_left _ hc)),
   h4.mono hG (fun c hc=>hb c (List.mem_append_right _ hc)) (fun c hc=>hw c (List.mem_append_right _ hc))⟩
theorem EntsRep.lt {G:Gh} {w:World}:∀ {es:List (AV × MV)} {xs:List MapEntry} {f:List Nat},EntsRep G es xs f w->∀ c ∈ f,∃ vs T,w.heap[c]?=some (.cells vs T (0,0))
 | [],_,_,h,c,hc=>by rw [h.2] at hc;cases hc
 | e :: es,_,_,h,c,hc=>by
  obtain ⟨x,xs',f,fp',h1,rfl,h2,h3,h4⟩:=h
  rcases List.mem_append.1 hc with hc | hc
  ·exact h3.lt c hc
  ·exact h4.lt c hc
theorem KeysRep.mono {G G':Gh} (hG:Gh.le G G'):∀ {es:List AV} {xs:List MapEntry},KeysRep G es xs->KeysRep G' es xs
 | [],_,h=>h
 | e :: es,_,h=>by
  obtain ⟨x,xs',h1,h2,h3⟩:=h
  exact ⟨x,xs',h1,AV.Rep.mono hG (HM.le.refl _) _ _ h2,h3.mono hG⟩
def KeepIt (m:HM) (w w':World):Prop:=∀ h b sz fp,m h=some (.atx b sz fp)->∀ x c d e,w.heap[b]?=some (.mapIter x c d e)->w'.heap[b]?=w.heap[b]?
theorem KeepIt.refl (m:HM) (w:World):KeepIt m w w:=fun _ _ _ _ _ _ _ _ _ _=>rfl
theorem KeepIt.all {m:HM} {w w':World} (h:∀ b,b < w.heap.size->w'.heap[b]?=w.heap[b]?):KeepIt m w w':=fun _ b _ _ _ _ _ _ _ hb=>h b (Array.getElem?_eq_some_iff.1 hb).1
def KeepItAt (bm:Nat) (m:HM) (w w':World):Prop:=∀ h b sz fp,m h=some (.atx b sz fp)->∀ c d e,w.heap[b]?=some (.mapIter (some bm) c d e)->w'.heap[b]?=w.heap[b]?
theorem KeepIt.at {m:HM} {w w':World} (h:KeepIt m w w') (bm:Nat):KeepItAt bm m w w':=fun x b sz fp hx c d e hb=>h x b sz fp hx _ c d e hb
theorem ItRep.mono2 {G G':Gh} {m m':HM} {it:Option (Hd × List AV × List AV)} {b:Nat} {arr:Array MapEntry} {clk:Nat} {w w':World} (h:ItRep G m it b arr clk w) (hG:Gh.le G G') (hm:HM.le m m') (hk:KeepItAt b m w w'):ItRep G' m' it b arr clk w':=fun hi rem e=>by
 obtain ⟨loc,h1,h2⟩:=h hi rem e
 rcases hm hi loc h1 with (h3 | ⟨c,sz,fp,fp',rfl,h3⟩) | h3
 ·refine ⟨loc,h3,fun hd=>?_⟩
  obtain ⟨bi,sz,fp,seen,l,rfl,g1,g2,g3,g4⟩:=h2 hd
  exact ⟨bi,sz,fp,seen,l,rfl,(hk hi bi sz fp h1 _ _ _ g1).trans g1,g2,g3.mono hG,fun k e=>let ⟨x,q1,q2,q3⟩:=g4 k e;⟨x,q1,q2,AV.Rep.mono hG (HM.le.refl _) _ _ q3⟩⟩
 ·refine ⟨_,h3,fun hd=>?_⟩
  obtain ⟨bi,sz,fp,seen,l,e,g1,g2,g3,g4⟩:=h2 (fun e=>by cases e)
  cases e
  exact ⟨c,sz,fp',seen,l,rfl,(hk hi c sz fp h1 _ _ _ g1).trans g1,g2,g3.mono hG,fun k e=>let ⟨x,q1,q2,q3⟩:=g4 k e;⟨x,q1,q2,AV.Rep.mono hG (HM.le.refl _) _ _ q3⟩⟩
 ·exact ⟨_,h3,fun h=>absurd rfl h⟩
theorem BlkX.lt {G:Gh} {m:HM} {bl:Blk} {b sz:Nat} {fp:List Nat} {w:World} (h:BlkX G m bl b sz fp w):∀ c ∈ b :: fp,c < w.heap.size:=by
 have key:b < w.heap.size/\∀ c ∈ fp,c < w.heap.size:=by
  cases bl with
  | box _=>unfold BlkX at h;exact h.elim
  | row _ _ _=>unfold BlkX at h;exact h.elim
  | nst k es =>
   unfold BlkX at h
   obtain ⟨_,vs,T,h1,_,_,h4,_⟩:=h
   exact ⟨(Array.getElem?_eq_some_iff.1 h1).1,fun c hc=>by obtain ⟨_,_,h5⟩:=h4.lt c hc;exact (Array.getElem?_eq_some_iff.1 h5).1⟩
  | sb T us es =>
   unfold BlkX at h
   obtain ⟨_,_,v,h1,h4,_⟩:=h
   exact ⟨(Array.getElem?_eq_some_iff.1 h1).1,fun c hc=>by obtain ⟨_,_,h5⟩:=h4.lt c hc;exact (Array.getElem?_eq_some_iff.1 h5).1⟩
  | mp kd es i =>
   unfold BlkX at h
   obtain ⟨_,_,arr,clk,h1,_,_,h4,_⟩:=h
   exact ⟨(Array.getElem?_eq_some_iff.1 h1).1,fun c hc=>by obtain ⟨_,_,h5⟩:=h4.lt c hc;exact (Array.getElem?_eq_some_iff.1 h5).1⟩
  | it =>
   unfold BlkX at h
   obtain ⟨_,rfl,_,_,_,_,h1⟩:=h
   exact ⟨(Array.getElem?_eq_some_iff.1 h1).1,fun c hc=>by cases hc⟩
 intro c hc
 rcases List.mem_cons.1 hc with rfl | hc
 ·exact key.1
 ·exact key.2 c hc
theorem BlkX.mono2 {G G':Gh} {m m':HM} {bl:Blk} {b sz:Nat} {fp:List Nat} {w w':World} (h:BlkX G m bl b sz fp w) (hG:Gh.le G G') (hm:HM.le m m') (hb:∀ c ∈ b :: fp,∀ o,G' c o=G c o) (hw:∀ c ∈ b :: fp,w'.heap[c]?=w.heap[c]?) (hk:KeepItAt b m w w'):BlkX G' m' bl b sz fp w':=by
 have hw0:=hw b List.mem_cons_self
 have hb':∀ c ∈ fp,∀ o,G' c o=G c o:=fun c hc=>hb c (List.mem_cons_of_mem _ hc)
 have hw':∀ c ∈ fp,w'.heap[c]?=w.heap[c]?:=fun c hc=>hw c (List.mem_cons_of_mem _ hc)
 cases bl with
 | box _=>unfold BlkX at h;exact h.elim
 | row _ _ _=>unfold BlkX at h;exact h.elim
 | nst k es =>
  unfold BlkX at h |-
  obtain ⟨h0,vs,T,h1,h2,h3,h4,h5⟩:=h
  exact ⟨h0,vs,T,hw0.trans h1,h2,h3,h4.mono hG hb' hw',fun o=>(hb b List.mem_cons_self o).trans (h5 o)⟩
 | sb T us es =>
  unfold BlkX at h |-
  obtain ⟨h0,h0',v,h1,h4,h5⟩:=h
  exact ⟨h0,h0',v,hw0.trans h1,h4.mono hG hb' hw',fun o=>(hb b List.mem_cons_self o).trans (h5 o)⟩
 | mp kd es i =>
  unfold BlkX at h |-
  obtain ⟨h0,h0',arr,clk,h1,h2,h3,h4,h5⟩:=h
  exact ⟨h0,h0',arr,clk,hw0.trans h1,h2,h3,h4.mono hG hb' hw',h5.mono2 hG hm hk⟩
 | it =>
  unfold BlkX at h |-
  obtain ⟨h0,h0',a,c,d,e,h1⟩:=h
  exact ⟨h0,h0',a,c,d,e,hw0.trans h1⟩
theorem BlkX.mono {G G':Gh} {m m':HM} {bl:Blk} {b sz:Nat} {fp:List Nat} {w w':World} (h:BlkX G m bl b sz fp w) (hG:Gh.le G G') (hm:HM.le m m') (hb:∀ c ∈ b :: fp,∀ o,G' c o=G c o) (hw:∀ c ∈ b :: fp,w'.heap[c]?=w.heap[c]?) (hk:KeepIt m w w'):BlkX G' m' bl b sz fp w':=h.mono2 hG hm hb hw (hk.at b)
theorem BlkX.frz {G:Gh} {m:HM} {bl:Blk} {b sz:Nat} {fp:List Nat} {w:World} (h:BlkX G m bl b sz fp w):bl.frz=bl:=by
 cases bl <;> first | rfl | (unfold BlkX at h;exact h.elim)

theorem cell_heap {w:World} {b o:Nat} {vs:Array Value} {T:TypeId} {fr:Nat × Nat} (h:w.heap[b]?=some (.cells vs T fr)):w.cell? ⟨b,o,none⟩=vs[o]?:=by
 simp [World.cell?,h]

theorem Sim.freeze1 {G:Gh} {m:HM} {lk:Look} {w:World} (hS:Sim G m lk w) (h:Hd) :
  ∃ G',Sim G' m (fun x=>if x=h then (lk x).map Blk.frz else lk x) w/\Gh.le G G'/\(∀ b,(∀ sz,m h ≠ some (.at_ b sz))->∀ o,G' b o=G b o):=by
 by_cases hrow:∃ b sz k es,m h=some (.at_ b sz)/\lk h=some (.row true k es)
 case neg =>
  refine ⟨G,⟨?_,?_,hS.injG,hS.gh,?_,hS.gl,fun h' b sz fp hm=>?_⟩,Gh.le.refl G,fun _ _ _=>rfl⟩
  ·intro h' b sz hm
   obtain ⟨bl,hl,hb⟩:=hS.blk h' b sz hm
   by_cases e:h'=h
   ·subst e
    simp only [if_true,hl,Option.map_some]
    cases bl with
    | box cs=>exact ⟨_,rfl,hb⟩
    | row mt k es =>
     cases mt with
     | true=>exact absurd ⟨b,sz,k,es,hm,hl⟩ hrow
     | false=>exact ⟨_,rfl,hb⟩
    | _=>unfold BlkRep at hb;exact hb.elim
   ·simp only [e,if_false]
    exact ⟨bl,hl,hb⟩
  ·intro h' hm
   obtain ⟨mt,k,hl⟩:=hS.nil h' hm
   by_cases e:h'=h
   ·subst e;simp only [if_true,hl,Option.map_some,Blk.frz];exact ⟨_,_,rfl⟩
   ·simp only [e,if_false];exact ⟨mt,k,hl⟩
  ·intro h' hm
   have:=hS.dead h' hm
   split <;> simp [this]
  ·obtain ⟨bl,hl,hb⟩:=hS.blkx h' b sz fp hm
   refine ⟨bl,?_,hb⟩
   rw [hl]
   split
   ·rw [Option.map_some,hb.frz]
   ·rfl
 case pos =>
  obtain ⟨b,sz,k,es,hm,hl⟩:=hrow
  obtain ⟨bl,hl',hb⟩:=hS.blk h b sz hm
  rw [hl] at hl'
  cases hl'
  unfold BlkRep at hb
  obtain ⟨vs,T,h1,h2,h3,h4,h5⟩:=hb
  let G':Gh:=fun b' o=>if b'=b/\o < es.length * k then vs[o]? else G b' o
  have hle:Gh.le G G':=fun b' o v hv=>by
   show (if b'=b/\o < es.length * k then vs[o]? else G b' o)=some v
   split
   ·rename_i hc
    rw [hc.1,h5 o] at hv;cases hv
   ·exact hv
  have hother:∀ b',b' ≠ b->∀ o,G' b' o=G b' o:=fun b' hne o=>by
   show (if b'=b/\o < es.length * k then vs[o]? else G b' o)=_
   rw [if_neg (fun hc=>hne hc.1)]
  refine ⟨G',⟨?_,?_,hS.injG,?_,?_,hS.gl.mono hle,fun h' b' sz' fp' hm'=>?_⟩,hle,fun b' hne o=>hother b' (fun e=>hne sz (e ▸ hm)) o⟩
  ·intro h' b' sz' hm'
   by_cases e:h'=h
   ·subst e
    have:Loc.at_ b' sz'=Loc.at_ b sz:=by rw [hm] at hm';exact (Option.some.inj hm').symm
    cases this
    simp only [if_true,hl,Option.map_some,Blk.frz]
    refine ⟨_,rfl,?_⟩
    unfold BlkRep
    refine ⟨vs,T,h1,h2,h3,DV.rows_congr (fun i hi=>?_) (DV.rows.mono hle (fun _ _ h=>h) _ _ _ h4),fun o ho=>?_⟩
    ·show (if b=b/\0 + i < es.length * k then vs[0 + i]? else G b (0 + i))=_
     rw [if_pos ⟨rfl,by omega⟩]
    ·show (if b=b/\o < es.length * k then vs[o]? else G b o)=none
     rw [if_neg (by omega)]
     exact h5 o
   ·simp only [e,if_false]
    obtain ⟨bl',hl',hb'⟩:=hS.blk h' b' sz' hm'
    have hne:b' ≠ b:=fun eb=>e (hS.inj h' h b sz' sz (eb ▸ hm') hm)
    exact ⟨bl',hl',hb'.mono hle (HM.le.refl m) (hother b' hne) rfl⟩
  ·intro h' hm'
   obtain ⟨mt,k',hl'⟩:=hS.nil h' hm'
   by_cases e:h'=h
   ·subst e;simp only [if_true,hl',Option.map_some,Blk.frz];exact ⟨_,_,rfl⟩
   ·simp only [e,if_false];exact ⟨mt,k',hl'⟩
  ·intro b' o v hv
   by_cases hc:b'=b/\o < es.length * k
   ·have:G' b' o=vs[o]?:=by show (if b'=b/\o < es.length * k then vs[o]? else G b' o)=_;rw [if_pos hc]
    rw [this] at hv
    rw [hc.1,cell_heap h1];exact hv
   ·have:G' b' o=G b' o:=by show (if b'=b/\o < es.length * k then vs[o]? else G b' o)=_;rw [if_neg hc]
    rw [this] at hv
    exact hS.gh b' o v hv
  ·intro h' hm'
   have:=hS.dead h' hm'
   split <;> simp [this]
  ·obtain ⟨bl',hl',hb'⟩:=hS.blkx h' b' sz' fp' hm'
   have e:h' ≠ h:=fun e=>by subst e;rw [hm] at hm';cases hm'
   have hne:∀ c ∈ b' :: fp',c ≠ b:=fun c hc eb=>e (hS.injG h' h _ _ c hm' hm hc (List.mem_singleton.2 eb))
   rw [if_neg e]
   exact ⟨bl',hl',hb'.mono hle (HM.le.refl m) (fun c hc=>hother c (hne c hc)) (fun _ _=>rfl) (KeepIt.refl m w)⟩

theorem Sim.congr {G:Gh} {m:HM} {lk lk':Look} {w:World} (hS:Sim G m lk w) (h:∀ x,m x ≠ none->lk' x=lk x):Sim G m lk' w :=
 ⟨fun x b sz hm=>by rw [h x (by rw [hm];simp)];exact hS.blk x b sz hm,fun x hm=>by rw [h x (by rw [hm];simp)];exact hS.nil x hm,hS.injG,hS.gh,fun x hm=>by rw [h x (by rw [hm];simp)];exact hS.dead x hm,hS.gl,fun x b sz fp hm=>by rw [h x (by rw [hm];simp)];exact hS.blkx x b sz fp hm⟩

theorem Blk.frz_frz (b:Blk):b.frz.frz=b.frz:=by cases b <;> rfl

theorem Sim.freeze {m:HM} {w:World}:∀ (hs:List Hd) {lk:Look} {G:Gh},Sim G m lk w ->
  ∃ G',Sim G' m (lkF lk hs) w/\Gh.le G G'/\(∀ b,(∀ h ∈ hs,∀ sz,m h ≠ some (.at_ b sz))->∀ o,G' b o=G b o)
 | [],lk,G,hS=>⟨G,hS.congr (fun _ _=>by simp [lkF]),Gh.le.refl G,fun _ _ _=>rfl⟩
 | h :: hs,lk,G,hS=>by
  obtain ⟨G1,h1,h2,h3⟩:=hS.freeze1 h
  obtain ⟨G2,k1,k2,k3⟩:=Sim.freeze hs h1
  refine ⟨G2,k1.congr (fun x _=>?_),h2.trans k2,fun b hb o=>?_⟩
  ·unfold lkF
   by_cases e:x=h
   ·subst e
    by_cases e2:x ∈ hs
    ·cases hx:lk x <;> simp [e2,hx,Blk.frz_frz]
    ·simp [e2]
   ·simp [e]
  ·rw [k3 b (fun h' hh=>hb h' (by simp [hh])) o,h3 b (hb h (by simp)) o]

end Go.Eng


/- Texts of this claim. -/
import Derived.Test.YtloponjgedpffaaGreatE14m
import Derived.Scope
set_option linter.all false
set_option linter.unusedSimpArgs false
set_option linter.unusedVariables false
namespace Go.Eng
open Go.RowKit

structure ResO (P:Program) (ops:Array Oper) (N:Nat) (o:Oper) (ro:RO):Prop where
 op:ro.op=.stop\/∃ b op0,aA P o=some op0/\ro.op=eL b op0
 dst:ro.dst=o.dst
 lt:∀ d,o.dst=some d->d < N
 xs:∀ x ∈ ro.op.operands,x.inN N=true
 guard:match o.guard with
  | none=>ro.guard=none
  | some (j,want)=>∃ t,(ops[j]?).bind (·.dst)=some t/\t < N/\ro.guard=some (t,want)

def bGq:Nat:=3000000
def bG1:Nat:=4000000
def bGf:Nat:=5000000
def aKx (fl:List Nat) (o:Oper):Mk :=
 match o.op with
 | .call c=>match c.callee with
  | .value (.func f)=>if fl.contains (bG1 + f)=true then .d else if fl.contains (bGf + f)=true then .e else match o.dst with | some d=>if fl.contains d=true then .e else .n | none=>.n
  | _=>match o.dst with | some d=>if fl.contains d=true then .e else .n | none=>.n
 | _=>match o.dst with | some d=>if fl.contains d=true then .e else if fl.contains (bGq + d)=true then .d else .n | none=>.n
def aBk (P:Program) (fl:List Nat) (N:Nat) (ops:Array Oper) (o:Oper):Option RO :=
 match ((aA P o).map (eL (aKx fl o))).getD .stop with
 | op =>
  if ((match o.dst with | some d=>decide (d < N) | none=>true) && op.operands.all (Operand.inN N))=true then
   match o.guard with
   | none=>some ⟨o.dst,op,none⟩
   | some (j,want)=>match (ops[j]?).bind (·.dst) with
    | some t=>if t < N then some ⟨o.dst,op,some (t,want)⟩ else none
    | none=>none
  else none

theorem aFk {P:Program} {fl:List Nat} {N:Nat} {ops:Array Oper} {o:Oper} {ro:RO} (h:aBk P fl N ops o=some ro):ResO P ops N o ro:=by
 unfold aBk at h
 have hop:((aA P o).map (eL (aKx fl o))).getD .stop=.stop\/∃ b op0,aA P o=some op0/\((aA P o).map (eL (aKx fl o))).getD .stop=eL b op0:=by
  cases hr:aA P o with
  | none=>exact .inl rfl
  | some op0=>exact .inr ⟨_,op0,rfl,rfl⟩
 generalize ((aA P o).map (eL (aKx fl o))).getD .stop=op at h hop
 simp only at h
 rw [Option.ite_none_right_eq_some] at h
 obtain ⟨hd,h⟩:=h
 rw [Bool.and_eq_true] at hd
 obtain ⟨hd,hxs⟩:=hd
 rw [List.all_eq_true] at hxs
 have hlt:∀ d,o.dst=some d->d < N:=fun d e=>by rw [e] at hd;simpa using hd
 split at h
 ·rename_i hg
  cases h
  exact ⟨hop,rfl,hlt,hxs,by rw [hg]⟩
 ·rename_i j want hg
  split at h
  ·rename_i t ht
   rw [Option.ite_none_right_eq_some] at h
   obtain ⟨htN,h⟩:=h
   cases h
   exact ⟨hop,rfl,hlt,hxs,by rw [hg];exact ⟨t,ht,htN,rfl⟩⟩
  ·cases h

def ROp.mkd:ROp->Bool
 | .loadS _ _=>true
 | .faddrS _ _=>true
 | .nilcS _=>true
 | .lenS _ _=>true
 | .bsF _ _=>true
 | .stop=>true
 | .loadD _ _=>true
 | .iaddrD _ _ _=>true
 | .callP _ _=>true
 | .mkmW _=>true
 | _=>false
theorem ResO.pure {P:Program} {ops:Array Oper} {N:Nat} {o:Oper} {ro:RO} (hr:ResO P ops N o ro) (he:ro.op.eff=false) (hne:ro.op.mkd=false):aA P o=some ro.op:=by
 obtain ⟨b,op0,h1,h2⟩:=hr.op.resolve_left (fun e=>by rw [e] at hne;cases hne)
 have:ro.op=op0:=by
  rw [h2] at he hne |-
  cases b with
  | n=>rfl
  | e=>cases op0 <;> first | rfl | (cases he;done) | (cases hne;done)
  | d=>cases op0 <;> first | rfl | (cases he;done) | (cases hne;done)
 rw [this];exact h1

theorem aFs {P:Program} {s:AState} {ro:RO} {K:AState->Prop} (he:ro.op.eff=false):nO P s ro K=aN P s.lk s.nx s.ev ro.op fun a nbs fz=>K (s.put ro.dst a nbs fz):=by
 unfold nO
 split
 ·rename_i h;rw [h] at he;cases he
 ·rename_i h;rw [h] at he;cases he
 ·rename_i h;rw [h] at he;cases he
 ·rename_i h;rw [h] at he;cases he
 ·rename_i h;rw [h] at he;cases he
 ·rename_i h;rw [h] at he;cases he
 ·rename_i h;rw [h] at he;cases he
 ·rename_i h;rw [h] at he;cases he
 ·rename_i h;rw [h] at he;cases he
 ·rename_i h;rw [h] at he;cases he
 ·rfl

theorem aRq {P:Program} {o:Oper} {k bytes:Nat} {x y:Operand} (h:aA P o=some (.app k bytes x y)):∃ c t u e d i,o.op=.call c/\c.callee=.builtin .append/\c.args.toList=[x,y]/\c.argTypes.toList=[t,u] /\
  P.underlying t=some (.slice e)/\P.underlying u=some d/\(d=.string\/∃ e',d=.slice e')/\P.info? e=some i/\i.zero.any (fun z=>z.cells.size == i.size)=true/\0 < i.bytes/\k=i.size/\bytes=i.bytes:=by
 cases ho:o.op
 case call c =>
  cases hc:c.callee
  case builtin b =>
   cases b
   case append =>
    simp only [aA,ho,hc] at h
    split at h
    case h_2=>cases h
    rename_i x' y' t u ha ht
    split at h
    case h_1 =>
     simp only [Option.bind_eq_some_iff,Option.ite_none_right_eq_some] at h
     obtain ⟨i,hi,z,hz,_,h⟩:=h
     cases h
    case h_3=>cases h
    rename_i e d _ hd1 hd2
    simp only [Option.bind_eq_some_iff] at h
    obtain ⟨i,hi,h⟩:=h
    rw [Option.ite_none_right_eq_some] at h
    obtain ⟨hcond,h⟩:=h
    cases h
    simp only [Bool.and_eq_true,decide_eq_true_eq] at hcond
    obtain ⟨⟨⟨h1,h2⟩,h3⟩,h4⟩:=hcond
    refine ⟨c,t,u,e,d,i,rfl,hc,ha,ht,hd1,hd2,?_,hi,h4,h3,rfl,rfl⟩
    cases d
    case string=>exact .inl rfl
    case slice=>exact .inr ⟨_,rfl⟩
    all_goals (simp at h1)
   all_goals (exfalso;simp only [aA,ho,hc] at h;(repeat' split at h) <;> simp_all [Option.bind_eq_some_iff,Option.map_eq_some_iff,Option.ite_none_right_eq_some])
  all_goals (exfalso;simp only [aA,ho,hc] at h;cases h)
 case field=>exfalso;simp only [aA,ho,Option.bind_eq_some_iff] at h;obtain ⟨f,_,h⟩:=h;split at h <;> cases h
 all_goals (exfalso;simp only [aA,ho] at h;(repeat' split at h) <;> simp_all [Option.bind_eq_some_iff,Option.map_eq_some_iff,Option.ite_none_right_eq_some])

theorem aTn {P:Program} {o:Oper} {sz:Nat} {x y:Operand} (h:aA P o=some (.store sz x y)):∃ T i,o.op=.store T x y/\o.dst=none/\P.info? T=some i/\sz=i.size:=by
 cases ho:o.op
 case store T x' y' =>
  simp only [aA,ho,Option.ite_none_right_eq_some,Option.map_eq_some_iff] at h
  obtain ⟨hdst,i,hi,he⟩:=h
  cases he
  exact ⟨T,i,rfl,by simpa using hdst,hi,rfl⟩
 case field=>exfalso;simp only [aA,ho,Option.bind_eq_some_iff] at h;obtain ⟨f,_,h⟩:=h;split at h <;> cases h
 all_goals (exfalso;simp only [aA,ho] at h;(repeat' split at h) <;> simp_all [Option.bind_eq_some_iff,Option.map_eq_some_iff,Option.ite_none_right_eq_some])

theorem aOm {b:Mk} {op0:ROp} {sz:Nat} {x y:Operand} (h:ROp.store sz x y=eL b op0):op0=.store sz x y:=by
 cases b <;> cases op0 <;> first | (cases h;done) | (cases h;rfl)
theorem aWo {b:Mk} {op0:ROp} {k bytes:Nat} {x y:Operand} (h:ROp.appE k bytes x y=eL b op0):op0=.app k bytes x y\/op0=.appE k bytes x y:=by
 cases b <;> cases op0 <;> first | (cases h;done) | (cases h;exact .inl rfl) | (cases h;exact .inr rfl)

theorem bAx {P:Program} {o:Oper} {k bytes:Nat} {x y:Operand} (h:aA P o=some (.appE k bytes x y)):False:=by
 cases ho:o.op
 case field=>simp only [aA,ho,Option.bind_eq_some_iff] at h;obtain ⟨f,_,h⟩:=h;split at h <;> cases h
 all_goals (simp only [aA,ho] at h;(repeat' split at h) <;> simp_all [Option.bind_eq_some_iff,Option.map_eq_some_iff,Option.ite_none_right_eq_some])

theorem aH5 {b:Mk} {op0:ROp} {f:Operand} {args:List Operand} (h:ROp.callE f args=eL b op0):op0=.call f args\/op0=.callE f args:=by
 cases b <;> cases op0 <;> first | (cases h;done) | (cases h;exact .inl rfl) | (cases h;exact .inr rfl)
theorem aK0 {P:Program} {o:Oper} {f:Operand} {args:List Operand} (h:aA P o=some (.callE f args)):False:=by
 cases ho:o.op
 case field=>simp only [aA,ho,Option.bind_eq_some_iff] at h;obtain ⟨f,_,h⟩:=h;split at h <;> cases h
 all_goals (simp only [aA,ho] at h;(repeat' split at h) <;> simp_all [Option.bind_eq_some_iff,Option.map_eq_some_iff,Option.ite_none_right_eq_some])
theorem tJ {P:Program} {o:Oper} {f:Operand} {args:List Operand} (h:aA P o=some (.call f args)):∃ c,o.op=.call c/\c.callee=.value f/\c.args.toList=args:=by
 cases ho:o.op
 case call c =>
  simp only [aA,ho] at h
  split at h
  ·rename_i g hg
   cases h
   exact ⟨c,rfl,hg,rfl⟩
  all_goals (exfalso;(repeat' split at h) <;> simp_all [Option.bind_eq_some_iff,Option.map_eq_some_iff,Option.ite_none_right_eq_some])
 case field=>exfalso;simp only [aA,ho,Option.bind_eq_some_iff] at h;obtain ⟨f,_,h⟩:=h;split at h <;> cases h
 all_goals (exfalso;simp only [aA,ho] at h;(repeat' split at h) <;> simp_all [Option.bind_eq_some_iff,Option.map_eq_some_iff,Option.ite_none_right_eq_some])

theorem aU5 {b:Mk} {op0:ROp} {k:Nat} {zs:List DV} {x:Operand} (h:ROp.clr k zs x=eL b op0):op0=.clr k zs x:=by
 cases b <;> cases op0 <;> first | (cases h;done) | (cases h;rfl)
theorem aVq {b:Mk} {op0:ROp} {k:Nat} {x y:Operand} (h:ROp.cpy k x y=eL b op0):op0=.cpy k x y:=by
 cases b <;> cases op0 <;> first | (cases h;done) | (cases h;rfl)
theorem aZ9 {P:Program} {o:Oper} {k:Nat} {zs:List DV} {x:Operand} (h:aA P o=some (.clr k zs x)):∃ c t e i z,o.op=.call c/\c.callee=.builtin .clear/\c.args.toList=[x]/\c.argTypes.toList=[t] /\
  P.underlying t=some (.slice e)/\P.info? e=some i/\i.zero=some z/\z.cells.size=i.size/\(z.cells.toList.map fI).all DV.one=true/\k=i.size/\zs=z.cells.toList.map fI:=by
 cases ho:o.op
 case call c =>
  cases hc:c.callee
  case builtin b =>
   cases b
   case clear =>
    simp only [aA,ho,hc] at h
    split at h
    case h_2=>cases h
    rename_i x' t ha ht
    split at h
    case h_2=>cases h
    rename_i e hd1
    simp only [Option.bind_eq_some_iff,Option.ite_none_right_eq_some,Bool.and_eq_true,beq_iff_eq] at h
    obtain ⟨i,hi,z,hz,⟨h1,h2⟩,h⟩:=h
    cases h
    exact ⟨c,t,e,i,z,rfl,hc,ha,ht,hd1,hi,hz,h1,h2,rfl,rfl⟩
   all_goals (exfalso;simp only [aA,ho,hc] at h;(repeat' split at h) <;> simp_all [Option.bind_eq_some_iff,Option.map_eq_some_iff,Option.ite_none_right_eq_some])
  all_goals (exfalso;simp only [aA,ho,hc] at h;cases h)
 case field=>exfalso;simp only [aA,ho,Option.bind_eq_some_iff] at h;obtain ⟨f,_,h⟩:=h;split at h <;> cases h
 all_goals (exfalso;simp only [aA,ho] at h;(repeat' split at h) <;> simp_all [Option.bind_eq_some_iff,Option.map_eq_some_iff,Option.ite_none_right_eq_some])
theorem bAp {P:Program} {o:Oper} {k:Nat} {x y:Operand} (h:aA P o=some (.cpy k x y)):∃ c t u e i,o.op=.call c/\c.callee=.builtin .copy/\c.args.toList=[x,y]/\c.argTypes.toList=[t,u] /\
  P.underlying t=some (.slice e)/\P.info? e=some i/\k=i.size:=by
 cases ho:o.op
 case call c =>
  cases hc:c.callee
  case builtin b =>
   cases b
   case copy =>
    simp only [aA,ho,hc] at h
    split at h
    case h_2=>cases h
    rename_i x' y' t u ha ht
    split at h
    case h_2=>cases h
    rename_i e hd1
    simp only [Option.map_eq_some_iff] at h
    obtain ⟨i,hi,h⟩:=h
    cases h
    exact ⟨c,t,u,e,i,rfl,hc,ha,ht,hd1,hi,rfl⟩
   all_goals (exfalso;simp only [aA,ho,hc] at h;(repeat' split at h) <;> simp_all [Option.bind_eq_some_iff,Option.map_eq_some_iff,Option.ite_none_right_eq_some])
  all_goals (exfalso;simp only [aA,ho,hc] at h;cases h)
 case field=>exfalso;simp only [aA,ho,Option.bind_eq_some_iff] at h;obtain ⟨f,_,h⟩:=h;split at h <;> cases h
 all_goals (exfalso;simp only [aA,ho] at h;(repeat' split at h) <;> simp_all [Option.bind_eq_some_iff,Option.map_eq_some_iff,Option.ite_none_right_eq_some])

theorem aOb {b:Mk} {op0:ROp} {kd:KD} {z:AV} {k:Nat} {ok:Bool} {x y:Operand} (h:ROp.mtake kd z k ok x y=eL b op0):op0=.mget kd z k ok x y\/op0=.mtake kd z k ok x y:=by
 cases b <;> cases op0 <;> first | (cases h;done) | (cases h;exact .inl rfl) | (cases h;exact .inr rfl)
theorem aS0 {b:Mk} {op0:ROp} {kd:KD} {x y z:Operand} (h:ROp.mput kd x y z=eL b op0):op0=.mput kd x y z:=by
 cases b <;> cases op0 <;> first | (cases h;done) | (cases h;rfl)
theorem aS5 {b:Mk} {op0:ROp} {kd:KD} {x y:Operand} (h:ROp.mdel kd x y=eL b op0):op0=.mdel kd x y:=by
 cases b <;> cases op0 <;> first | (cases h;done) | (cases h;rfl)
theorem aW3 {b:Mk} {op0:ROp} {kd:KD} {x:Operand} (h:ROp.rng kd x=eL b op0):op0=.rng kd x:=by
 cases b <;> cases op0 <;> first | (cases h;done) | (cases h;rfl)
theorem aX4 {b:Mk} {op0:ROp} {x:Operand} (h:ROp.nxt x=eL b op0):op0=.nxt x:=by
 cases b <;> cases op0 <;> first | (cases h;done) | (cases h;rfl)
theorem aT6 {b:Mk} {op0:ROp} {x:Operand} (h:ROp.entT x=eL b op0):op0=.ent x\/op0=.entT x:=by
 cases b <;> cases op0 <;> first | (cases h;done) | (cases h;exact .inl rfl) | (cases h;exact .inr rfl)
theorem bAz {P:Program} {o:Oper} {x:Operand} (h:aA P o=some (.entT x)):False:=by
 cases ho:o.op
 case field=>simp only [aA,ho,Option.bind_eq_some_iff] at h;obtain ⟨f,_,h⟩:=h;split at h <;> cases h
 all_goals (simp only [aA,ho] at h;(repeat' split at h) <;> simp_all [Option.bind_eq_some_iff,Option.map_eq_some_iff,Option.ite_none_right_eq_some])
theorem bAa {P:Program} {o:Oper} {x:Operand} (h:aA P o=some (.ent x)):o.op=.entry x:=by
 cases ho:o.op
 case entry y=>simp only [aA,ho,Option.some.injEq] at h;cases h;rfl
 case field=>exfalso;simp only [aA,ho,Option.bind_eq_some_iff] at h;obtain ⟨f,_,h⟩:=h;split at h <;> cases h
 all_goals (exfalso;simp only [aA,ho] at h;(repeat' split at h) <;> simp_all [Option.bind_eq_some_iff,Option.map_eq_some_iff,Option.ite_none_right_eq_some])
theorem aTr {b:Mk} {op0:ROp} {kd:KD} (h:ROp.mkmW kd=eL b op0):op0=.mkm kd\/op0=.mkmW kd:=by
 cases b <;> cases op0 <;> first | (cases h;done) | (cases h;exact .inl rfl) | (cases h;exact .inr rfl)
theorem bBb {P:Program} {o:Oper} {kd:KD} (h:aA P o=some (.mkmW kd)):False:=by
 cases ho:o.op
 case field=>simp only [aA,ho,Option.bind_eq_some_iff] at h;obtain ⟨f,_,h⟩:=h;split at h <;> cases h
 all_goals (simp only [aA,ho] at h;(repeat' split at h) <;> simp_all [Option.bind_eq_some_iff,Option.map_eq_some_iff,Option.ite_none_right_eq_some])
theorem aX8 {P:Program} {o:Oper} {kd:KD} {z:AV} {k:Nat} {ok:Bool} {x y:Operand} (h:aA P o=some (.mtake kd z k ok x y)):False:=by
 cases ho:o.op
 case field=>simp only [aA,ho,Option.bind_eq_some_iff] at h;obtain ⟨f,_,h⟩:=h;split at h <;> cases h
 all_goals (simp only [aA,ho] at h;(repeat' split at h) <;> simp_all [Option.bind_eq_some_iff,Option.map_eq_some_iff,Option.ite_none_right_eq_some])
theorem aYg {P:Program} {o:Oper} {kd:KD} {z:AV} {k:Nat} {ok:Bool} {x y:Operand} (h:aA P o=some (.mget kd z k ok x y)):∃ T k0 e i z0,o.op=.lookup T x y ok/\P.underlying T=some (.map k0 e)/\wO P k0 kd/\P.info? e=some i/\i.zero=some z0/\z=gC z0:=by
 cases ho:o.op
 case lookup T x' y' ok' =>
  simp only [aA,ho,Option.bind_eq_some_iff,Option.map_eq_some_iff] at h
  obtain ⟨⟨kd',e⟩,hT,i,hi,z0,hz,h⟩:=h
  cases h
  obtain ⟨k0,h1,h2⟩:=lS hT
  exact ⟨T,k0,e,i,z0,rfl,h1,h2,hi,hz,rfl⟩
 case field=>exfalso;simp only [aA,ho,Option.bind_eq_some_iff] at h;obtain ⟨f,_,h⟩:=h;split at h <;> cases h
 all_goals (exfalso;simp only [aA,ho] at h;(repeat' split at h) <;> simp_all [Option.bind_eq_some_iff,Option.map_eq_some_iff,Option.ite_none_right_eq_some])
theorem aYr {P:Program} {o:Oper} {kd:KD} {x y z:Operand} (h:aA P o=some (.mput kd x y z)):∃ T k0 e,(o.op=.mapUpdate T x y z\/o.op=.insert T x y z)/\o.dst=none/\P.underlying T=some (.map k0 e)/\wO P k0 kd:=by
 cases ho:o.op
 case mapUpdate T x' y' z' =>
  simp only [aA,ho,Option.ite_none_right_eq_some,Option.map_eq_some_iff] at h
  obtain ⟨hd,⟨kd',e⟩,hT,h⟩:=h
  cases h
  obtain ⟨k0,h1,h2⟩:=lS hT
  exact ⟨T,k0,e,.inl rfl,by simpa using hd,h1,h2⟩
 case insert T x' y' z' =>
  simp only [aA,ho,Option.ite_none_right_eq_some,Option.map_eq_some_iff] at h
  obtain ⟨hd,⟨kd',e⟩,hT,h⟩:=h
  cases h
  obtain ⟨k0,h1,h2⟩:=lS hT
  exact ⟨T,k0,e,.inr rfl,by simpa using hd,h1,h2⟩
 case field=>exfalso;simp only [aA,ho,Option.bind_eq_some_iff] at h;obtain ⟨f,_,h⟩:=h;split at h <;> cases h
 all_goals (exfalso;simp only [aA,ho] at h;(repeat' split at h) <;> simp_all [Option.bind_eq_some_iff,Option.map_eq_some_iff,Option.ite_none_right_eq_some])
theorem aZd {P:Program} {o:Oper} {kd:KD} {x:Operand} (h:aA P o=some (.rng kd x)):∃ T k0 e,o.op=.range T x/\P.underlying T=some (.map k0 e):=by
 cases ho:o.op
 case range T x' =>
  simp only [aA,ho,Option.map_eq_some_iff] at h
  obtain ⟨⟨kd',e⟩,hT,h⟩:=h
  cases h
  obtain ⟨k0,h1,h2⟩:=lS hT
  exact ⟨T,k0,e,rfl,h1⟩
 case field=>exfalso;simp only [aA,ho,Option.bind_eq_some_iff] at h;obtain ⟨f,_,h⟩:=h;split at h <;> cases h
 all_goals (exfalso;simp only [aA,ho] at h;(repeat' split at h) <;> simp_all [Option.bind_eq_some_iff,Option.map_eq_some_iff,Option.ite_none_right_eq_some])
theorem bBk {P:Program} {o:Oper} {x:Operand} (h:aA P o=some (.nxt x)):o.op=.next x false:=by
 cases ho:o.op
 case next x' b =>
  cases b
  ·simp only [aA,ho,Option.some.injEq] at h;cases h;rfl
  ·simp only [aA,ho] at h;cases h
 case field=>exfalso;simp only [aA,ho,Option.bind_eq_some_iff] at h;obtain ⟨f,_,h⟩:=h;split at h <;> cases h
 all_goals (exfalso;simp only [aA,ho] at h;(repeat' split at h) <;> simp_all [Option.bind_eq_some_iff,Option.map_eq_some_iff,Option.ite_none_right_eq_some])
theorem aW5 {P:Program} {o:Oper} {kd:KD} {x y:Operand} (h:aA P o=some (.mdel kd x y)):∃ c T t2 k0 e,o.op=.call c/\c.callee=.builtin .delete/\c.args.toList=[x,y]/\c.argTypes.toList=[T,t2]/\o.dst=none/\P.underlying T=some (.map k0 e)/\wO P k0 kd:=by
 cases ho:o.op
 case call c =>
  cases hc:c.callee
  case builtin b =>
   cases b
   case delete =>
    simp only [aA,ho,hc] at h
    split at h
    case h_2=>cases h
    rename_i x' y' t t2 ha ht
    simp only [Option.ite_none_right_eq_some,Option.map_eq_some_iff] at h
    obtain ⟨hd,⟨kd',e⟩,hT,h⟩:=h
    cases h
    obtain ⟨k0,h1,h2⟩:=lS hT
    exact ⟨c,t,t2,k0,e,rfl,hc,ha,ht,by simpa using hd,h1,h2⟩
   all_goals (exfalso;simp only [aA,ho,hc] at h;(repeat' split at h) <;> simp_all [Option.bind_eq_some_iff,Option.map_eq_some_iff,Option.ite_none_right_eq_some])
  all_goals (exfalso;simp only [aA,ho,hc] at h;cases h)
 case field=>exfalso;simp only [aA,ho,Option.bind_eq_some_iff] at h;obtain ⟨f,_,h⟩:=h;split at h <;> cases h
 all_goals (exfalso;simp only [aA,ho] at h;(repeat' split at h) <;> simp_all [Option.bind_eq_some_iff,Option.map_eq_some_iff,Option.ite_none_right_eq_some])

end Go.Eng


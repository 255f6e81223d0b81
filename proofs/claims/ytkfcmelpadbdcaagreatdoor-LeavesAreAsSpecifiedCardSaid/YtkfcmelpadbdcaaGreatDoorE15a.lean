/- Texts of this claim. -/
import Derived.Test.YtkfcmelpadbdcaaGreatDoorE14m
import Derived.Scope
set_option linter.all false
set_option linter.unusedSimpArgs false
set_option linter.unusedVariables false
namespace Go.Eng
open Go.RowKit

structure ResO (P:Program) (ops:Array Oper) (N:Nat) (o:Oper) (ro:RO):Prop where
 op:ro.op=.stop\/∃ b op0,resolveOp P o=some op0/\ro.op=markE b op0
 dst:ro.dst=o.dst
 lt:∀ d,o.dst=some d->d < N
 xs:∀ x ∈ ro.op.operands,x.inN N=true
 guard:match o.guard with
  | none=>ro.guard=none
  | some (j,want)=>∃ t,(ops[j]?).bind (·.dst)=some t/\t < N/\ro.guard=some (t,want)

def dFlag:Nat:=3000000
def pFlag:Nat:=4000000
def eFlag:Nat:=5000000
def markOf (fl:List Nat) (o:Oper):Mk :=
 match o.op with
 | .call c=>match c.callee with
  | .value (.func f)=>if fl.contains (pFlag + f)=true then .d else if fl.contains (eFlag + f)=true then .e else match o.dst with | some d=>if fl.contains d=true then .e else .n | none=>.n
  | _=>match o.dst with | some d=>if fl.contains d=true then .e else .n | none=>.n
 | _=>match o.dst with | some d=>if fl.contains d=true then .e else if fl.contains (dFlag + d)=true then .d else .n | none=>.n
def resolveRO (P:Program) (fl:List Nat) (N:Nat) (ops:Array Oper) (o:Oper):Option RO :=
 match ((resolveOp P o).map (markE (markOf fl o))).getD .stop with
 | op =>
  if ((match o.dst with | some d=>decide (d < N) | none=>true) && op.operands.all (Operand.inN N))=true then
   match o.guard with
   | none=>some ⟨o.dst,op,none⟩
   | some (j,want)=>match (ops[j]?).bind (·.dst) with
    | some t=>if t < N then some ⟨o.dst,op,some (t,want)⟩ else none
    | none=>none
  else none

theorem resolveRO_spec {P:Program} {fl:List Nat} {N:Nat} {ops:Array Oper} {o:Oper} {ro:RO} (h:resolveRO P fl N ops o=some ro):ResO P ops N o ro:=by
 unfold resolveRO at h
 have hop:((resolveOp P o).map (markE (markOf fl o))).getD .stop=.stop\/∃ b op0,resolveOp P o=some op0/\((resolveOp P o).map (markE (markOf fl o))).getD .stop=markE b op0:=by
  cases hr:resolveOp P o with
  | none=>exact .inl rfl
  | some op0=>exact .inr ⟨_,op0,rfl,rfl⟩
 generalize ((resolveOp P o).map (markE (markOf fl o))).getD .stop=op at h hop
 simp only at h
 rw [Option.ite_none_right_eq_some] at h
 obtain ⟨hd,h⟩:=h
 rw [Bool.and_eq_true] at hd
 obtain ⟨hd,hxs⟩:=hd
 rw [List.all_eq_true] at hxs
 have hlt:∀ d,o.dst=some d->d < N:=fun d e=>by rw [e] at hd;simpa using hd
 split at h
 ·rename_i hg
  cases h
  exact ⟨hop,rfl,hlt,hxs,by rw [hg]⟩
 ·rename_i j want hg
  split at h
  ·rename_i t ht
   rw [Option.ite_none_right_eq_some] at h
   obtain ⟨htN,h⟩:=h
   cases h
   exact ⟨hop,rfl,hlt,hxs,by rw [hg];exact ⟨t,ht,htN,rfl⟩⟩
  ·cases h

def ROp.mkd:ROp->Bool
 | .loadS _ _=>true
 | .faddrS _ _=>true
 | .nilcS _=>true
 | .lenS _ _=>true
 | .bsF _ _=>true
 | .stop=>true
 | .loadD _ _=>true
 | .iaddrD _ _ _=>true
 | .sllD _ _ _ _ _=>true
 | .callP _ _=>true
 | .mkmW _=>true
 | _=>false
theorem ResO.pure {P:Program} {ops:Array Oper} {N:Nat} {o:Oper} {ro:RO} (hr:ResO P ops N o ro) (he:ro.op.eff=false) (hne:ro.op.mkd=false):resolveOp P o=some ro.op:=by
 obtain ⟨b,op0,h1,h2⟩:=hr.op.resolve_left (fun e=>by rw [e] at hne;cases hne)
 have:ro.op=op0:=by
  rw [h2] at he hne |-
  cases b with
  | n=>rfl
  | e=>cases op0 <;> first | rfl | (cases he;done) | (cases hne;done)
  | d=>cases op0 <;> first | rfl | (cases he;done) | (cases hne;done)
 rw [this];exact h1

theorem sstep_pure {P:Program} {s:AState} {ro:RO} {K:AState->Prop} (he:ro.op.eff=false):sstep P s ro K=pstep P s.lk s.nx s.ev ro.op fun a nbs fz=>K (s.put ro.dst a nbs fz):=by
 unfold sstep
 split
 ·rename_i h;rw [h] at he;cases he
 ·rename_i h;rw [h] at he;cases he
 ·rename_i h;rw [h] at he;cases he
 ·rename_i h;rw [h] at he;cases he
 ·rename_i h;rw [h] at he;cases he
 ·rename_i h;rw [h] at he;cases he
 ·rename_i h;rw [h] at he;cases he
 ·rename_i h;rw [h] at he;cases he
 ·rename_i h;rw [h] at he;cases he
 ·rename_i h;rw [h] at he;cases he
 ·rfl

theorem res_app {P:Program} {o:Oper} {k bytes:Nat} {x y:Operand} (h:resolveOp P o=some (.app k bytes x y)):∃ c t u e d i,o.op=.call c/\c.callee=.builtin .append/\c.args.toList=[x,y]/\c.argTypes.toList=[t,u] /\
  P.underlying t=some (.slice e)/\P.underlying u=some d/\(d=.string\/∃ e',d=.slice e')/\P.info? e=some i/\i.zero.any (fun z=>z.cells.size == i.size)=true/\0 < i.bytes/\k=i.size/\bytes=i.bytes:=by
 cases ho:o.op
 case call c =>
  cases hc:c.callee
  case builtin b =>
   cases b
   case append =>
    simp only [resolveOp,ho,hc] at h
    split at h
    case h_2=>cases h
    rename_i x' y' t u ha ht
    split at h
    case h_1 =>
     simp only [Option.bind_eq_some_iff,Option.ite_none_right_eq_some] at h
     obtain ⟨i,hi,z,hz,_,h⟩:=h
     cases h
    case h_3=>cases h
    rename_i e d _ hd1 hd2
    simp only [Option.bind_eq_some_iff] at h
    obtain ⟨i,hi,h⟩:=h
    rw [Option.ite_none_right_eq_some] at h
    obtain ⟨hcond,h⟩:=h
    cases h
    simp only [Bool.and_eq_true,decide_eq_true_eq] at hcond
    obtain ⟨⟨⟨h1,h2⟩,h3⟩,h4⟩:=hcond
    refine ⟨c,t,u,e,d,i,rfl,hc,ha,ht,hd1,hd2,?_,hi,h4,h3,rfl,rfl⟩
    cases d
    case string=>exact .inl rfl
    case slice=>exact .inr ⟨_,rfl⟩
    all_goals (simp at h1)
   all_goals (exfalso;simp only [resolveOp,ho,hc] at h;(repeat' split at h) <;> simp_all [Option.bind_eq_some_iff,Option.map_eq_some_iff,Option.ite_none_right_eq_some])
  all_goals (exfalso;simp only [resolveOp,ho,hc] at h;cases h)
 case field=>exfalso;simp only [resolveOp,ho,Option.bind_eq_some_iff] at h;obtain ⟨f,_,h⟩:=h;split at h <;> cases h
 all_goals (exfalso;simp only [resolveOp,ho] at h;(repeat' split at h) <;> simp_all [Option.bind_eq_some_iff,Option.map_eq_some_iff,Option.ite_none_right_eq_some])

theorem res_store {P:Program} {o:Oper} {sz:Nat} {x y:Operand} (h:resolveOp P o=some (.store sz x y)):∃ T i,o.op=.store T x y/\o.dst=none/\P.info? T=some i/\sz=i.size:=by
 cases ho:o.op
 case store T x' y' =>
  simp only [resolveOp,ho,Option.ite_none_right_eq_some,Option.map_eq_some_iff] at h
  obtain ⟨hdst,i,hi,he⟩:=h
  cases he
  exact ⟨T,i,rfl,by simpa using hdst,hi,rfl⟩
 case field=>exfalso;simp only [resolveOp,ho,Option.bind_eq_some_iff] at h;obtain ⟨f,_,h⟩:=h;split at h <;> cases h
 all_goals (exfalso;simp only [resolveOp,ho] at h;(repeat' split at h) <;> simp_all [Option.bind_eq_some_iff,Option.map_eq_some_iff,Option.ite_none_right_eq_some])

theorem mark_store {b:Mk} {op0:ROp} {sz:Nat} {x y:Operand} (h:ROp.store sz x y=markE b op0):op0=.store sz x y:=by
 cases b <;> cases op0 <;> first | (cases h;done) | (cases h;rfl)
theorem mark_app {b:Mk} {op0:ROp} {k bytes:Nat} {x y:Operand} (h:ROp.appE k bytes x y=markE b op0):op0=.app k bytes x y\/op0=.appE k bytes x y:=by
 cases b <;> cases op0 <;> first | (cases h;done) | (cases h;exact .inl rfl) | (cases h;exact .inr rfl)

theorem no_appE {P:Program} {o:Oper} {k bytes:Nat} {x y:Operand} (h:resolveOp P o=some (.appE k bytes x y)):False:=by
 cases ho:o.op
 case field=>simp only [resolveOp,ho,Option.bind_eq_some_iff] at h;obtain ⟨f,_,h⟩:=h;split at h <;> cases h
 all_goals (simp only [resolveOp,ho] at h;(repeat' split at h) <;> simp_all [Option.bind_eq_some_iff,Option.map_eq_some_iff,Option.ite_none_right_eq_some])

theorem mark_call {b:Mk} {op0:ROp} {f:Operand} {args:List Operand} (h:ROp.callE f args=markE b op0):op0=.call f args\/op0=.callE f args:=by
 cases b <;> cases op0 <;> first | (cases h;done) | (cases h;exact .inl rfl) | (cases h;exact .inr rfl)
theorem no_callE {P:Program} {o:Oper} {f:Operand} {args:List Operand} (h:resolveOp P o=some (.callE f args)):False:=by
 cases ho:o.op
 case field=>simp only [resolveOp,ho,Option.bind_eq_some_iff] at h;obtain ⟨f,_,h⟩:=h;split at h <;> cases h
 all_goals (simp only [resolveOp,ho] at h;(repeat' split at h) <;> simp_all [Option.bind_eq_some_iff,Option.map_eq_some_iff,Option.ite_none_right_eq_some])
theorem res_call {P:Program} {o:Oper} {f:Operand} {args:List Operand} (h:resolveOp P o=some (.call f args)):∃ c,o.op=.call c/\c.callee=.value f/\c.args.toList=args:=by
 cases ho:o.op
 case call c =>
  simp only [resolveOp,ho] at h
  split at h
  ·rename_i g hg
   cases h
   exact ⟨c,rfl,hg,rfl⟩
  all_goals (exfalso;(repeat' split at h) <;> simp_all [Option.bind_eq_some_iff,Option.map_eq_some_iff,Option.ite_none_right_eq_some])
 case field=>exfalso;simp only [resolveOp,ho,Option.bind_eq_some_iff] at h;obtain ⟨f,_,h⟩:=h;split at h <;> cases h
 all_goals (exfalso;simp only [resolveOp,ho] at h;(repeat' split at h) <;> simp_all [Option.bind_eq_some_iff,Option.map_eq_some_iff,Option.ite_none_right_eq_some])

theorem mark_clr {b:Mk} {op0:ROp} {k:Nat} {zs:List DV} {x:Operand} (h:ROp.clr k zs x=markE b op0):op0=.clr k zs x:=by
 cases b <;> cases op0 <;> first | (cases h;done) | (cases h;rfl)
theorem mark_cpy {b:Mk} {op0:ROp} {k:Nat} {x y:Operand} (h:ROp.cpy k x y=markE b op0):op0=.cpy k x y:=by
 cases b <;> cases op0 <;> first | (cases h;done) | (cases h;rfl)
theorem res_clr {P:Program} {o:Oper} {k:Nat} {zs:List DV} {x:Operand} (h:resolveOp P o=some (.clr k zs x)):∃ c t e i z,o.op=.call c/\c.callee=.builtin .clear/\c.args.toList=[x]/\c.argTypes.toList=[t] /\
  P.underlying t=some (.slice e)/\P.info? e=some i/\i.zero=some z/\z.cells.size=i.size/\(z.cells.toList.map zeroDV).all DV.one=true/\k=i.size/\zs=z.cells.toList.map zeroDV:=by
 cases ho:o.op
 case call c =>
  cases hc:c.callee
  case builtin b =>
   cases b
   case clear =>
    simp only [resolveOp,ho,hc] at h
    split at h
    case h_2=>cases h
    rename_i x' t ha ht
    split at h
    case h_2=>cases h
    rename_i e hd1
    simp only [Option.bind_eq_some_iff,Option.ite_none_right_eq_some,Bool.and_eq_true,beq_iff_eq] at h
    obtain ⟨i,hi,z,hz,⟨h1,h2⟩,h⟩:=h
    cases h
    exact ⟨c,t,e,i,z,rfl,hc,ha,ht,hd1,hi,hz,h1,h2,rfl,rfl⟩
   all_goals (exfalso;simp only [resolveOp,ho,hc] at h;(repeat' split at h) <;> simp_all [Option.bind_eq_some_iff,Option.map_eq_some_iff,Option.ite_none_right_eq_some])
  all_goals (exfalso;simp only [resolveOp,ho,hc] at h;cases h)
 case field=>exfalso;simp only [resolveOp,ho,Option.bind_eq_some_iff] at h;obtain ⟨f,_,h⟩:=h;split at h <;> cases h
 all_goals (exfalso;simp only [resolveOp,ho] at h;(repeat' split at h) <;> simp_all [Option.bind_eq_some_iff,Option.map_eq_some_iff,Option.ite_none_right_eq_some])
theorem res_cpy {P:Program} {o:Oper} {k:Nat} {x y:Operand} (h:resolveOp P o=some (.cpy k x y)):∃ c t u e i,o.op=.call c/\c.callee=.builtin .copy/\c.args.toList=[x,y]/\c.argTypes.toList=[t,u] /\
  P.underlying t=some (.slice e)/\P.info? e=some i/\k=i.size:=by
 cases ho:o.op
 case call c =>
  cases hc:c.callee
  case builtin b =>
   cases b
   case copy =>
    simp only [resolveOp,ho,hc] at h
    split at h
    case h_2=>cases h
    rename_i x' y' t u ha ht
    split at h
    case h_2=>cases h
    rename_i e hd1
    simp only [Option.map_eq_some_iff] at h
    obtain ⟨i,hi,h⟩:=h
    cases h
    exact ⟨c,t,u,e,i,rfl,hc,ha,ht,hd1,hi,rfl⟩
   all_goals (exfalso;simp only [resolveOp,ho,hc] at h;(repeat' split at h) <;> simp_all [Option.bind_eq_some_iff,Option.map_eq_some_iff,Option.ite_none_right_eq_some])
  all_goals (exfalso;simp only [resolveOp,ho,hc] at h;cases h)
 case field=>exfalso;simp only [resolveOp,ho,Option.bind_eq_some_iff] at h;obtain ⟨f,_,h⟩:=h;split at h <;> cases h
 all_goals (exfalso;simp only [resolveOp,ho] at h;(repeat' split at h) <;> simp_all [Option.bind_eq_some_iff,Option.map_eq_some_iff,Option.ite_none_right_eq_some])

theorem mark_mtake {b:Mk} {op0:ROp} {kd:KD} {z:AV} {k:Nat} {ok:Bool} {x y:Operand} (h:ROp.mtake kd z k ok x y=markE b op0):op0=.mget kd z k ok x y\/op0=.mtake kd z k ok x y:=by
 cases b <;> cases op0 <;> first | (cases h;done) | (cases h;exact .inl rfl) | (cases h;exact .inr rfl)
theorem mark_mput {b:Mk} {op0:ROp} {kd:KD} {x y z:Operand} (h:ROp.mput kd x y z=markE b op0):op0=.mput kd x y z:=by
 cases b <;> cases op0 <;> first | (cases h;done) | (cases h;rfl)
theorem mark_mdel {b:Mk} {op0:ROp} {kd:KD} {x y:Operand} (h:ROp.mdel kd x y=markE b op0):op0=.mdel kd x y:=by
 cases b <;> cases op0 <;> first | (cases h;done) | (cases h;rfl)
theorem mark_rng {b:Mk} {op0:ROp} {kd:KD} {x:Operand} (h:ROp.rng kd x=markE b op0):op0=.rng kd x:=by
 cases b <;> cases op0 <;> first | (cases h;done) | (cases h;rfl)
theorem mark_entT {b:Mk} {op0:ROp} {x:Operand} (h:ROp.entT x=markE b op0):op0=.ent x\/op0=.entT x:=by
 cases b <;> cases op0 <;> first | (cases h;done) | (cases h;exact .inl rfl) | (cases h;exact .inr rfl)
theorem no_entT {P:Program} {o:Oper} {x:Operand} (h:resolveOp P o=some (.entT x)):False:=by
 cases ho:o.op
 case field=>simp only [resolveOp,ho,Option.bind_eq_some_iff] at h;obtain ⟨f,_,h⟩:=h;split at h <;> cases h
 all_goals (simp only [resolveOp,ho] at h;(repeat' split at h) <;> simp_all [Option.bind_eq_some_iff,Option.map_eq_some_iff,Option.ite_none_right_eq_some])
theorem mark_mkmW {b:Mk} {op0:ROp} {kd:KD} (h:ROp.mkmW kd=markE b op0):op0=.mkm kd\/op0=.mkmW kd:=by
 cases b <;> cases op0 <;> first | (cases h;done) | (cases h;exact .inl rfl) | (cases h;exact .inr rfl)
theorem no_mkmW {P:Program} {o:Oper} {kd:KD} (h:resolveOp P o=some (.mkmW kd)):False:=by
 cases ho:o.op
 case field=>simp only [resolveOp,ho,Option.bind_eq_some_iff] at h;obtain ⟨f,_,h⟩:=h;split at h <;> cases h
 all_goals (simp only [resolveOp,ho] at h;(repeat' split at h) <;> simp_all [Option.bind_eq_some_iff,Option.map_eq_some_iff,Option.ite_none_right_eq_some])
theorem no_mtake {P:Program} {o:Oper} {kd:KD} {z:AV} {k:Nat} {ok:Bool} {x y:Operand} (h:resolveOp P o=some (.mtake kd z k ok x y)):False:=by
 cases ho:o.op
 case field=>simp only [resolveOp,ho,Option.bind_eq_some_iff] at h;obtain ⟨f,_,h⟩:=h;split at h <;> cases h
 all_goals (simp only [resolveOp,ho] at h;(repeat' split at h) <;> simp_all [Option.bind_eq_some_iff,Option.map_eq_some_iff,Option.ite_none_right_eq_some])
theorem res_mget {P:Program} {o:Oper} {kd:KD} {z:AV} {k:Nat} {ok:Bool} {x y:Operand} (h:resolveOp P o=some (.mget kd z k ok x y)):∃ T k0 e i z0,o.op=.lookup T x y ok/\P.underlying T=some (.map k0 e)/\KeyT P k0 kd/\P.info? e=some i/\i.zero=some z0/\z=constMV z0:=by
 cases ho:o.op
 case lookup T x' y' ok' =>
  simp only [resolveOp,ho,Option.bind_eq_some_iff,Option.map_eq_some_iff] at h
  obtain ⟨⟨kd',e⟩,hT,i,hi,z0,hz,h⟩:=h
  cases h
  obtain ⟨k0,h1,h2⟩:=mapD_spec hT
  exact ⟨T,k0,e,i,z0,rfl,h1,h2,hi,hz,rfl⟩
 case field=>exfalso;simp only [resolveOp,ho,Option.bind_eq_some_iff] at h;obtain ⟨f,_,h⟩:=h;split at h <;> cases h
 all_goals (exfalso;simp only [resolveOp,ho] at h;(repeat' split at h) <;> simp_all [Option.bind_eq_some_iff,Option.map_eq_some_iff,Option.ite_none_right_eq_some])
theorem res_mput {P:Program} {o:Oper} {kd:KD} {x y z:Operand} (h:resolveOp P o=some (.mput kd x y z)):∃ T k0 e,(o.op=.mapUpdate T x y z\/o.op=.insert T x y z)/\o.dst=none/\P.underlying T=some (.map k0 e)/\KeyT P k0 kd:=by
 cases ho:o.op
 case mapUpdate T x' y' z' =>
  simp only [resolveOp,ho,Option.ite_none_right_eq_some,Option.map_eq_some_iff] at h
  obtain ⟨hd,⟨kd',e⟩,hT,h⟩:=h
  cases h
  obtain ⟨k0,h1,h2⟩:=mapD_spec hT
  exact ⟨T,k0,e,.inl rfl,by simpa using hd,h1,h2⟩
 case insert T x' y' z' =>
  simp only [resolveOp,ho,Option.ite_none_right_eq_some,Option.map_eq_some_iff] at h
  obtain ⟨hd,⟨kd',e⟩,hT,h⟩:=h
  cases h
  obtain ⟨k0,h1,h2⟩:=mapD_spec hT
  exact ⟨T,k0,e,.inr rfl,by simpa using hd,h1,h2⟩
 case field=>exfalso;simp only [resolveOp,ho,Option.bind_eq_some_iff] at h;obtain ⟨f,_,h⟩:=h;split at h <;> cases h
 all_goals (exfalso;simp only [resolveOp,ho] at h;(repeat' split at h) <;> simp_all [Option.bind_eq_some_iff,Option.map_eq_some_iff,Option.ite_none_right_eq_some])
theorem res_rng {P:Program} {o:Oper} {kd:KD} {x:Operand} (h:resolveOp P o=some (.rng kd x)):∃ T k0 e,o.op=.range T x/\P.underlying T=some (.map k0 e):=by
 cases ho:o.op
 case range T x' =>
  simp only [resolveOp,ho,Option.map_eq_some_iff] at h
  obtain ⟨⟨kd',e⟩,hT,h⟩:=h
  cases h
  obtain ⟨k0,h1,h2⟩:=mapD_spec hT
  exact ⟨T,k0,e,rfl,h1⟩
 case field=>exfalso;simp only [resolveOp,ho,Option.bind_eq_some_iff] at h;obtain ⟨f,_,h⟩:=h;split at h <;> cases h
 all_goals (exfalso;simp only [resolveOp,ho] at h;(repeat' split at h) <;> simp_all [Option.bind_eq_some_iff,Option.map_eq_some_iff,Option.ite_none_right_eq_some])
theorem res_mdel {P:Program} {o:Oper} {kd:KD} {x y:Operand} (h:resolveOp P o=some (.mdel kd x y)):∃ c T t2 k0 e,o.op=.call c/\c.callee=.builtin .delete/\c.args.toList=[x,y]/\c.argTypes.toList=[T,t2]/\o.dst=none/\P.underlying T=some (.map k0 e)/\KeyT P k0 kd:=by
 cases ho:o.op
 case call c =>
  cases hc:c.callee
  case builtin b =>
   cases b
   case delete =>
    simp only [resolveOp,ho,hc] at h
    split at h
    case h_2=>cases h
    rename_i x' y' t t2 ha ht
    simp only [Option.ite_none_right_eq_some,Option.map_eq_some_iff] at h
    obtain ⟨hd,⟨kd',e⟩,hT,h⟩:=h
    cases h
    obtain ⟨k0,h1,h2⟩:=mapD_spec hT
    exact ⟨c,t,t2,k0,e,rfl,hc,ha,ht,by simpa using hd,h1,h2⟩
   all_goals (exfalso;simp only [resolveOp,ho,hc] at h;(repeat' split at h) <;> simp_all [Option.bind_eq_some_iff,Option.map_eq_some_iff,Option.ite_none_right_eq_some])
  all_goals (exfalso;simp only [resolveOp,ho,hc] at h;cases h)
 case field=>exfalso;simp only [resolveOp,ho,Option.bind_eq_some_iff] at h;obtain ⟨f,_,h⟩:=h;split at h <;> cases h
 all_goals (exfalso;simp only [resolveOp,ho] at h;(repeat' split at h) <;> simp_all [Option.bind_eq_some_iff,Option.map_eq_some_iff,Option.ite_none_right_eq_some])

end Go.Eng


/- Texts of this claim. -/
import Derived.Test.YtkfcmelpadbdcaaGreatDoorE5
set_option linter.all false
set_option linter.unusedSimpArgs false
set_option linter.unusedVariables false
namespace Go.Eng
open Go.RowKit
section
variable {P:Program} {o:Oper} {lk:Look} {n:Nat} {ev:Operand->AV} {K:AV->List Blk->List Hd->Prop}

def Out (P:Program) (s:Sem Value) (K':AV->Prop):Prop:=∃ a v,K' a/\(∀ w,s.run P w=.ok v w)/\∀ G m,AV.Rep G m a v
theorem Out.int {s:Sem Value} {K':AV->Prop} {k:IntKind} {r:Int} (h:K' (.D (.I k r))) (hr:∀ w,s.run P w=.ok (.int k r) w):Out P s K' :=
 ⟨_,_,h,hr,fun G m=>by simp [AV.Rep,DV.Rep]⟩
theorem Out.bool {s:Sem Value} {K':AV->Prop} {r:Bool} (h:K' (.D (.B r))) (hr:∀ w,s.run P w=.ok (.bool r) w):Out P s K' :=
 ⟨_,_,h,hr,fun G m=>by simp [AV.Rep,DV.Rep]⟩
theorem Out.str {s:Sem Value} {K':AV->Prop} {r:List UInt8} (h:K' (.D (.S r))) (hr:∀ w,s.run P w=.ok (.string ⟨r.toArray⟩) w):Out P s K' :=
 ⟨_,_,h,hr,fun G m=>by simp [AV.Rep,DV.Rep]⟩

theorem run_int (op:BinOp) (T:TypeId) (x y:Operand) (k:IntKind) (p q:Int) {K':AV->Prop} (h:aint op k p q K') :
  Out P (do eqGuard op T x y (.int k p) (.int k q);binOp op T (.int k p) (.int k q)) K':=by
 unfold aint at h
 rw [eqGuard_at_int]
 split at h
 case h_1=>exact Out.int h (fun w=>by simp [binOp_add,Op.intArith])
 case h_2=>exact Out.int h (fun w=>by simp [binOp_sub,Op.intArith])
 case h_3=>exact Out.int h (fun w=>by simp [binOp_mul,Op.intArith])
 case h_4=>exact Out.int h.2 (fun w=>by simp [binOp_quo,Op.intDiv,h.1])
 case h_5=>exact Out.int h.2 (fun w=>by simp [binOp_rem,Op.intDiv,h.1])
 case h_6=>exact Out.int h (fun w=>by simp [binOp_and,intBits_and])
 case h_7=>exact Out.int h (fun w=>by simp [binOp_or,intBits_or])
 case h_8=>exact Out.int h (fun w=>by simp [binOp_xor,intBits_xor])
 case h_9=>exact Out.int h (fun w=>by simp [binOp_andNot,intBits_andNot])
 case h_10=>exact Out.bool h (fun w=>by simp [binOp_eql])
 case h_11=>exact Out.bool h (fun w=>by simp [binOp_neq])
 case h_12=>exact Out.bool h (fun w=>by simp [binOp_lss])
 case h_13=>exact Out.bool h (fun w=>by simp [binOp_leq])
 case h_14=>exact Out.bool h (fun w=>by simp [binOp_gtr])
 case h_15=>exact Out.bool h (fun w=>by simp [binOp_geq])
 case h_16=>exact h.elim

theorem run_str (op:BinOp) (T:TypeId) (x y:Operand) (p q:List UInt8) {K':AV->Prop} (h:astr op p q K') :
  Out P (do eqGuard op T x y (.string ⟨p.toArray⟩) (.string ⟨q.toArray⟩);binOp op T (.string ⟨p.toArray⟩) (.string ⟨q.toArray⟩)) K':=by
 unfold astr at h
 rw [eqGuard_at_string]
 have e1:(⟨p.toArray⟩:ByteArray).toList=p:=by rw [ByteArray.toList_eq]
 have e2:(⟨q.toArray⟩:ByteArray).toList=q:=by rw [ByteArray.toList_eq]
 have hb:∀ op,binOp op T (.string ⟨p.toArray⟩) (.string ⟨q.toArray⟩)=Op.stringOp op ⟨p.toArray⟩ ⟨q.toArray⟩:=fun op=>by cases op <;> rfl
 rw [hb]
 have e3:(⟨p.toArray⟩:ByteArray).size=p.length:=by simp [ByteArray.size]
 have e4:(⟨q.toArray⟩:ByteArray).size=q.length:=by simp [ByteArray.size]
 have e5:(⟨p.toArray⟩:ByteArray) ++ ⟨q.toArray⟩=⟨(p ++ q).toArray⟩:=by
  apply ByteArray.ext;simp [ByteArray.data_append]
 split at h
 case h_1 =>
  refine Out.str h.2 (fun w=>?_)
  simp only [Op.stringOp,e3,e4,IntKind.max_i64,Sem.run_bind,Sem.run_pure,Result.andThen_ok]
  rw [if_neg (by have:=h.1;omega),e5];rfl
 case h_8=>exact h.elim
 all_goals exact Out.bool h (fun w=>by simp only [Op.stringOp,e1,e2,Sem.run_bind,Sem.run_pure,Result.andThen_ok])

theorem PS.out {ro:ROp} {s:(Operand->Value)->Sem Value} {u:Sem Value} (hx:∀ (ρ:Operand->Value),execOp ρ o=(do pure (.value (<- s ρ)))) (hout:Out P u (fun a=>K a [] []))
  (hs:∀ (G:Gh) (m:HM) (ρ:Operand->Value),(∀ x ∈ ro.operands,AV.Rep G m (ev x) (ρ x))->s ρ=u):PS P o ro lk n ev K:=by
 obtain ⟨a,v,hK,hrun,hrep⟩:=hout
 refine ⟨_,_,_,hK,by first | exact fun _=>⟨rfl,rfl⟩ | (intro hh;cases hh),(by intro h hh;first | (cases hh;done) | exact (List.mem_filter.1 hh).2 | (split at hh <;> first | exact (List.mem_filter.1 hh).2 | cases hh)),fun G m w ρ _ lk2 _ hS hev _=>Does.val (v:=v) (w':=w) ?_ (PPost.val hS (hrep G m))⟩
 rw [hx,hs G m ρ hev]
 simp [hrun]

theorem evr {G:Gh} {m:HM} {ro:ROp} {ρ:Operand->Value} (hev:∀ x ∈ ro.operands,AV.Rep G m (ev x) (ρ x)) {z:Operand} {a:AV} (hz:ev z=a) (hm:z ∈ ro.operands):AV.Rep G m a (ρ z):=hz ▸ hev z hm
theorem rep_I {G:Gh} {m:HM} {k:IntKind} {p:Int} {v:Value} (h:AV.Rep G m (.D (.I k p)) v):v=.int k p:=by unfold AV.Rep DV.Rep at h;exact h
theorem rep_B {G:Gh} {m:HM} {p:Bool} {v:Value} (h:AV.Rep G m (.D (.B p)) v):v=.bool p:=by unfold AV.Rep DV.Rep at h;exact h
theorem rep_S {G:Gh} {m:HM} {p:List UInt8} {v:Value} (h:AV.Rep G m (.D (.S p)) v):v=.string ⟨p.toArray⟩:=by unfold AV.Rep DV.Rep at h;exact h

theorem ps_bin {op:BinOp} {T yT:TypeId} {x y:Operand} (ho:o.op=.binOp op T x y yT) (h:pstep P lk n ev (.bin op x y) K):PS P o (.bin op x y) lk n ev K:=by
 have h':abin op (fun a=>K a [] []) (ev x) (ev y):=h
 clear h
 have hexec:∀ (ρ:Operand->Value),execOp ρ o=(do pure (.value (<- ((do eqGuard op T x y (ρ x) (ρ y);binOp op T (ρ x) (ρ y)):Sem Value)))):=fun ρ=>by simp only [execOp,ho]
 generalize hx:ev x=ax at h'
 generalize hy:ev y=ay at h'
 unfold abin at h'
 split at h'
 ·rename_i k p k' q
  have hs:∀ (G:Gh) (m:HM) (ρ:Operand->Value),(∀ z ∈ (ROp.bin op x y).operands,AV.Rep G m (ev z) (ρ z))->ρ x=.int k p/\ρ y=.int k' q:=fun G m ρ hev =>
   ⟨rep_I (evr hev hx (by simp [ROp.operands])),rep_I (evr hev hy (by simp [ROp.operands]))⟩
  split at h'
  ·refine PS.out hexec (u:=do eqGuard .shl T x y (.int k p) (.int k' q);binOp .shl T (.int k p) (.int k' q)) (Out.int h'.2.2 (fun w=>?_)) (fun G m ρ hev=>by rw [(hs G m ρ hev).1,(hs G m ρ hev).2])
   rw [eqGuard_at_int,binOp_shl,shift_shl k k' p q h'.1 h'.2.1];simp
  ·refine PS.out hexec (u:=do eqGuard .shr T x y (.int k p) (.int k' q);binOp .shr T (.int k p) (.int k' q)) (Out.int h'.2.2 (fun w=>?_)) (fun G m ρ hev=>by rw [(hs G m ρ hev).1,(hs G m ρ hev).2])
   rw [eqGuard_at_int,binOp_shr,shift_shr k k' p q h'.1 h'.2.1];simp
  ·obtain ⟨rfl,h'⟩:=h'
   exact PS.out hexec (run_int op T x y k p q h') (fun G m ρ hev=>by rw [(hs G m ρ hev).1,(hs G m ρ hev).2])
 ·rename_i p q
  exact PS.out hexec (run_str op T x y p q h') (fun G m ρ hev=>by
   rw [rep_S (evr hev hx (by simp [ROp.operands])),rep_S (evr hev hy (by simp [ROp.operands]))])
 ·exact h'.elim

theorem ps_beq {op:BinOp} {T yT:TypeId} {x y:Operand} {ro:ROp} (ho:o.op=.binOp op T x y yT) (hd:P.underlying T=some .bool) (hr:resolveOp P o=some ro) (h:pstep P lk n ev ro K):PS P o ro lk n ev K:=by
 simp only [resolveOp,ho,hd] at hr
 have hops:op=.eql\/op=.neq:=by cases op <;> simp [opEq] at hr |-
 have hro:ro=.beq (opNeq op) x y:=by rcases hops with rfl | rfl <;> simpa [opEq] using hr.symm
 subst hro
 obtain ⟨p,q,hx,hy,h⟩:=h
 have hexec:∀ (ρ:Operand->Value),execOp ρ o=(do pure (.value (<- ((do eqGuard op T x y (ρ x) (ρ y);binOp op T (ρ x) (ρ y)):Sem Value)))):=fun ρ=>by simp only [execOp,ho]
 refine PS.out hexec (u:=do eqGuard op T x y (.bool p) (.bool q);binOp op T (.bool p) (.bool q)) (Out.bool h (fun w=>?_)) (fun G m ρ hev=>by
  rw [rep_B (evr hev hx (by simp [ROp.operands])),rep_B (evr hev hy (by simp [ROp.operands]))])
 rcases hops with rfl | rfl <;> simp [opNeq,eqGuard_at_bool,binOp,Op.equal,Op.maxDepth,run_equalIn_bool' w 9999 T p q hd]

theorem ps_un {op:UnOp} {T:TypeId} {x:Operand} (ho:o.op=.unOp op T x) (h:pstep P lk n ev (.un op x) K):PS P o (.un op x) lk n ev K:=by
 have h':aun op (fun a=>K a [] []) (ev x):=h
 clear h
 have hexec:∀ (ρ:Operand->Value),execOp ρ o=(do pure (.value (<- Op.unary op (ρ x)))):=fun ρ=>by simp only [execOp,ho]
 generalize hx:ev x=ax at h'
 unfold aun at h'
 split at h'
 ·rename_i p
  obtain ⟨rfl,h'⟩:=h'
  exact PS.out hexec (u:=Op.unary .not (.bool p)) (Out.bool h' (fun w=>by simp [Op.unary])) (fun G m ρ hev=>by rw [rep_B (evr hev hx (by simp [ROp.operands]))])
 ·rename_i k p
  split at h'
  ·exact PS.out hexec (u:=Op.unary .neg (.int k p)) (Out.int h' (fun w=>by simp [Op.unary,Op.intArith])) (fun G m ρ hev=>by rw [rep_I (evr hev hx (by simp [ROp.operands]))])
  ·exact PS.out hexec (u:=Op.unary .xor (.int k p)) (Out.int h' (fun w=>by simp [Op.unary,intBits_xor])) (fun G m ρ hev=>by rw [rep_I (evr hev hx (by simp [ROp.operands]))])
  ·exact h'.elim
 ·exact h'.elim

end
end Go.Eng


/- Calls of functions that are put off. -/
import Derived.Test.YtogggngebjcpmaaE20b
import Derived.DefersIn
set_option linter.all false
set_option linter.unusedSimpArgs false
set_option linter.unusedVariables false
namespace Go.Eng
open Go.RowKit

def DCall (P : Program) (f : FuncId) (args : List AV) (bs : List (Option Blk)) (r : AV) (bs' : List (Option Blk)) (nbs : List Blk) : Prop :=
  FnOk P f ∧ ∀ (w : World) (G : Gh) (m : HM) (vs : Array Value) (u : FrameMode), Sim G m (lkOf bs []) w → (∀ i, m (.O i) = none) → AV.RepL G m args vs.toList →
    CallsDIn (FR none) 0 P f vs u w fun e u' w' => u' = u ∧ ∃ v, e = .returned v ∧ APost w G m (lkOf bs' nbs) r v w'

theorem DCall.of_bodyW {P : Program} (fl : List Nat) {f : FuncId} {fn : Func} {c : Code} {rc : RCode} {rs : List RRes} {args : List AV} {bs : List (Option Blk)} {r : AV} {bs' : List (Option Blk)} {nbs : List Blk}
    (hf : P.funcs[f]? = some fn) (hb : fn.body = some c) (hname : (fn.name == "runtime.NumGoroutine") = false) (hm : P.follows .mixedOrders = true) (hrc : resolveCode P fl fn.ntmps c = some rc) (hrs : resolveResN P fn.ntmps fn.results.toList = some rs)
    (hn : args.length ≤ fn.ntmps) (h : acode P bodyY rc (AEndW bs.length rs r bs' nbs) (entry args bs)) : DCall P f args bs r bs' nbs := by
  have hrs0 := resN_of hrs
  refine ⟨⟨fn, hf, by rw [hb]; rfl, hname⟩, fun w G m vs u hS hO hA => ?_⟩
  refine callsDIn_of_wp (R := fun e w' => ∃ v, e = .returned v ∧ APost w G m (lkOf bs' nbs) r v w') hf hb (FR_fn none f) ?_
  have hent := entry_ok true hn hS hO hA
  refine wpIn_mono (resolveCode_ok hm hrc none bodyY _ _ _ _ _ YOk.body rfl h ⟨G, m, hent⟩) fun e a' w' ⟨s00, ⟨s, hw, hq⟩, hA0⟩ => ?_
  obtain ⟨G1, m1, hA'⟩ := hw _ _ _ hA0
  obtain ⟨v, hv, hp⟩ := end_ok hrs0 rfl rfl rfl rfl hS hA' hq
  have hd : a'.defers = [] := (marks1_nil.1 hA'.defers).2.2 rfl
  rcases hq.1 with rfl | rfl <;> exact ⟨hd, v, hv, v, rfl, hp⟩

theorem AtS.epost {E : Ent} {G : Gh} {m : HM} {s s' : AState} {a : Act} {w w' : World} {v : Value} (h : AtS E G m s a w) (henv : ∀ t, s'.env t = s.env t) (hnx : s.nx ≤ s'.nx) (hown : (∀ i, s.nx ≤ i → s.own i = none) → ∀ i, s'.nx ≤ i → s'.own i = none) (hp : EPost G m s none s' w v w') : ASim E s' a w' := by
  obtain ⟨G', m', hS, _, hF, hle, hB, hO, hnew⟩ := hp
  have hk : KeepO w w' := hF.keep (fun b q => h.sim.data q)
  refine ⟨G', m', hS, fun t => ?_, h.size, h.defers.keep hk, by rw [henv]; exact E.Jkeep _ _ _ h.jok hk, fun i hi => ?_, h.frame.step hF (fun b hb q => h.ownOld hb q) (fun b hb q => h.ownOld hb q), fun i => (h.base i).trans (hB i), fun x l b hi hl => ?_, h.noO, hown h.nxOk⟩
  · rw [henv t]; exact AV.Rep.mono hF.le hle _ _ (h.env t)
  · exact (hO i (.inr hi)).none (h.fresh i (Nat.le_trans hnx hi))
  · rcases hnew x l b hi hl with h1 | h1
    · exact .inl (Nat.le_trans h.frame.size h1)
    · rcases Nat.lt_or_ge b E.w0.heap.size with h2 | h2
      · exact .inr (h.ownOld h2 h1)
      · exact .inl h2

def dfrE (N : Nat) (xs : List AV) (env : Nat → AV) : Nat → AV := shE N env .any fun t => xs.getD t .any
def dfrS (N : Nat) (xs : List AV) (s : AState) : AState := s.withEnv (dfrE N xs s.env)
def dfrV (N : Nat) (s : AState) : Nat → List AV
  | 0 => []
  | n + 1 => dfrV N s n ++ [s.env (N + 1 + n)]

def DEnd (P : Program) (N n : Nat) (g : FuncId) (k : Nat) (rs : List RRes) (r : AV) (bs' : List (Option Blk)) (nbs : List Blk) : Exit → AState → Prop := fun e s =>
  (e = .normal ∨ e = .ret) ∧ ∃ hs rr bs2 nbs2, hs.Nodup ∧ hsOk s.nx hs = true ∧ (∀ h ∈ hs, (s.lk h).any Blk.isIt = false) ∧ bs2.length = hs.length ∧
    DCall P g (AV.convL s.lk (phiH hs) (dfrV N s k)) (handed s.lk hs) rr bs2 nbs2 ∧ AEndW n rs r bs' nbs .ret (afterE s hs (dfrV N s k) none rr bs2 nbs2)

def preRun (P : Program) : List RCode → (AState → Prop) → (Exit → AState → Prop) → AState → Prop
  | [], K, _, s => K s
  | rc :: rcs, K, Q, s => acode P bodyY rc (exSeq (preRun P rcs K Q) Q) s
def resolveAll (P : Program) (fl : List Nat) (N : Nat) : List Code → Option (List RCode)
  | [] => some []
  | c :: cs => match resolveCode P fl N c, resolveAll P fl N cs with
    | some x, some y => some (x :: y)
    | _, _ => none

theorem preRun_ok {P : Program} {fl : List Nat} {N : Nat} (hm : P.follows .mixedOrders = true) {E : Ent} (hE : E.N = N) {c : Code} {K : AState → Prop} {Q : Exit → AState → Prop} {R : Exit → Act → World → Prop}
    (hK : ∀ s a w, K s → ASim E s a w → c.wpIn (FR none) 0 P R a w) (hQ : ∀ e s a w, Q e s → ASim E s a w → R e a w) : ∀ {cs : List Code} {rcs : List RCode} {s : AState} {a : Act} {w : World}, resolveAll P fl N cs = some rcs → preRun P rcs K Q s → ASim E s a w → (cs.foldr Code.seq c).wpIn (FR none) 0 P R a w
  | [], rcs, s, a, w, hr, h, hA => by
    unfold resolveAll at hr; cases hr
    exact hK s a w h hA
  | d :: cs, rcs, s, a, w, hr, h, hA => by
    unfold resolveAll at hr
    split at hr
    · rename_i x y h1 h2
      cases hr
      subst hE
      refine wpIn_seq ?_
      refine wpIn_mono (resolveCode_ok hm h1 none bodyY E _ _ _ _ YOk.body rfl h hA) fun e a' w' ⟨s', hq, hA'⟩ => ?_
      cases e with
      | normal => exact preRun_ok hm rfl hK hQ h2 hq hA'
      | _ => exact hQ _ _ _ _ hq hA'
    · cases hr

theorem aops_seqK {r : Option Nat} {P : Program} {ops : Array Oper} {E : Ent} {Q : Exit → Act → World → Prop} {tl : List Oper} : ∀ {os : List Oper} {ros : List RO} {s : AState} {a : Act} {w : World} {K : AState → Prop}, ResL P ops E.N os ros → aops P ros s K → ASim E s a w →
    (∀ s' a' w', K s' → ASim E s' a' w' → wpListIn (FR r) 0 P ops Q tl a' w') → wpListIn (FR r) 0 P ops Q (os ++ tl) a w
  | [], [], s, a, w, K, _, h, hA, hQ => hQ _ _ _ h hA
  | [], _ :: _, _, _, _, _, hr, _, _, _ => hr.elim
  | _ :: _, [], _, _, _, _, hr, _, _, _ => hr.elim
  | o :: os, ro :: ros, s, a, w, K, hr, h, hA, hQ =>
    aops_step (K := fun s' => aops P ros s' K) hr.1 h hA fun s' a' w' hK hA' => aops_seqK hr.2 hK hA' hQ

theorem dfrV_rep {G : Gh} {m : HM} {N : Nat} {s : AState} {vs : List Value} (h : ∀ i v, vs[i]? = some v → AV.Rep G m (s.env (N + 1 + i)) v) : ∀ k, k ≤ vs.length → AV.RepL G m (dfrV N s k) (vs.take k)
  | 0, _ => by simp [dfrV, AV.RepL]
  | k + 1, hk => by
    have h1 : vs[k]? = some vs[k] := by simp
    rw [List.take_add_one, h1]
    unfold dfrV
    refine AV.RepL_append (dfrV_rep h k (by omega)) ?_
    unfold AV.RepL
    exact ⟨_, _, rfl, h k _ h1, by unfold AV.RepL; rfl⟩

theorem ACall.of_bodyD {P : Program} (fl : List Nat) {f : FuncId} {fn : Func} (cs : List Code) {id : Nat} {ops : Array Oper} {os : List Oper} {od : Oper} {cl : Call} {g : FuncId} {rest : Code} {rcs : List RCode} {ros : List RO} {rc : RCode} {rs : List RRes} {args : List AV} {bs : List (Option Blk)} {r : AV} {bs' : List (Option Blk)} {nbs : List Blk}
    (hf : P.funcs[f]? = some fn) (hb : fn.body = some (cs.foldr Code.seq (.seq (.region id ops false) rest))) (hname : (fn.name == "runtime.NumGoroutine") = false) (hm : P.follows .mixedOrders = true)
    (hcs : resolveAll P fl fn.ntmps cs = some rcs) (hops : ops.toList = os ++ [od]) (hod : od.op = .defer cl) (hog : od.guard = none) (hdst : od.dst = none) (hcl : cl.callee = .value (.func g)) (hxs : cl.args.toList.all (Operand.inN fn.ntmps) = true)
    (hos : resolveList P fl fn.ntmps ops os = some ros) (hrest : resolveCode P fl fn.ntmps rest = some rc) (hrs : resolveResN P fn.ntmps fn.results.toList = some rs)
    (hn : args.length ≤ fn.ntmps) (h : preRun P rcs (fun s => aops P ros s fun s' => acode P bodyY rc (DEnd P fn.ntmps bs.length g cl.args.size rs r bs' nbs) (dfrS fn.ntmps (cl.args.toList.map s'.ev) s')) (AEndW bs.length rs r bs' nbs) (entry args bs)) : ACall P f args bs r bs' nbs := by
  have hrs0 := resN_of hrs
  refine fun w G m vs hS hO hA => .inl ⟨⟨fn, hf, by rw [hb]; rfl, hname⟩, callsFR' (r := none) (n := 0) (callsIn_of_wp_marks hf hb (FR_fn none f) ?_)⟩
  have hent := entry_ok true hn hS hO hA
  refine preRun_ok hm (N := fn.ntmps) rfl (fun s a1 w1 hK hA1 => ?_) (fun e s a1 w1 hq hA1 => ?_) hcs h ⟨G, m, hent⟩
  · refine wpIn_seq (wpIn_region_list ?_)
    rw [hops]
    refine aops_seqK (resolveList_spec hos) hK hA1 fun s' a2 w2 hq ⟨G2, m2, hA2⟩ => ?_
    -- the call is put off
    unfold wpListIn
    rw [if_pos (by simp [Region.wanted, hog])]
    unfold Oper.wpIn
    refine ⟨fun f' _ => FR_fn none f', ?_⟩
    rw [FR_round, Oper.semAt_none]
    have hexec : (execOp a2.eval od).run P w2 = .ok (.defer { target := .fn (.func g) #[], args := cl.args.map a2.eval }) w2 := by
      simp only [execOp, hod, resolve, hcl, Deferred.ofValue, Act.eval, Sem.run_bind]
      simp
    rw [hexec, Oper.uponIn_defer, hdst]
    unfold wpListIn
    show Exit.then _ _ .normal _ _
    show rest.wpIn _ _ _ _ _ _
    have hd0 : a2.defers = [] := (marks1_nil.1 hA2.defers).2.2 rfl
    obtain ⟨d, hd⟩ : ∃ d : Deferred, d = { target := .fn (.func g) #[], args := cl.args.map a2.eval } := ⟨_, rfl⟩
    have hrl : AV.RepL G2 m2 (cl.args.toList.map s'.ev) d.args.toList := by
      rw [hd, Array.toList_map]
      exact AV.RepL_map fun x hx => hA2.evs x (List.all_eq_true.1 hxs x hx)
    let E2 : Ent := { w0 := w, G0 := G, m0 := m, N := fn.ntmps, cv := cvLow fun i => d.args.toList.getD i undef, dt := [d] }
    have hE2v : ∀ a t, E2.val a (fn.ntmps + 1 + t) = d.args.toList.getD t undef := fun a t => val_low (E := E2) (f := fun i => d.args.toList.getD i undef) rfl t
    have hA3 : AtS E2 G2 m2 (dfrS fn.ntmps (cl.args.toList.map s'.ev) s') { a2 with defers := d :: a2.defers } w2 := by
      refine hA2.turn (E' := E2) _ rfl rfl rfl hA2.sim hA2.frame (shE_rep (N := fn.ntmps) (v := E2.val _) (fun t ht => ?_) rep_any fun t => ?_) hA2.size ⟨[], by rw [hd0]; rfl, Marks.nil⟩ trivial
      · have := hA2.env t
        rw [Ent.val_lt ht] at this
        rw [Ent.val_lt (E := E2) ht]
        exact this
      · rw [hE2v]
        rw [List.getD_eq_getElem?_getD, List.getD_eq_getElem?_getD]
        cases h1 : (cl.args.toList.map s'.ev)[t]? with
        | none => exact rep_any
        | some x =>
          obtain ⟨v, h2, h3⟩ := AV.RepL_get hrl h1
          rw [h2]; exact h3
    rw [← hd]
    refine wpIn_mono (resolveCode_ok hm hrest none bodyY E2 _ _ _ _ YOk.body rfl hq ⟨G2, m2, hA3⟩) fun e a' w' ⟨s, hq, G1, m1, hA1⟩ => ?_
    obtain ⟨he, hs, rr, bs2, nbs2, hnd, hok, hits, hlen, hcall, hend⟩ := hq
    obtain ⟨tmps, ds⟩ := a'
    obtain ⟨ms, e1, hM⟩ := hA1.defers
    have e1 : ds = ms ++ E2.dt := e1
    subst e1
    obtain ⟨fd, hfd, hbd, hnm⟩ := hcall.1
    have key : LeavesInM (FR none) 0 P fn tmps (fun e w' => ∃ v, e = .returned v ∧ APost w G m (lkOf bs' nbs) r v w') (ms ++ E2.dt) .returning w' := by
      refine leaves_marks (E := E2) ms w' hA1 hM fun w4 h4 => ?_
      refine ⟨by simp, .inr ⟨fun hd => by simp [FR, Fence.wide] at hd, .func g, #[], g, d.args, by rw [hd], ?_, fun f' _ => FR_fn none f', ?_⟩⟩
      · rw [hd]
        have hnone : fd.body.isNone = false := by cases hb2 : fd.body <;> rw [hb2] at hbd <;> simp_all
        simp only [invoke, callFunc, Sem.run_bind, run_program, hfd, hnm, hnone, Bool.false_eq_true, if_false, Result.andThen_ok]
        simp
      · obtain ⟨c1, c2, c3, c4⟩ := callE_sim (s := s) (dst := none) (vals := dfrV fn.ntmps s cl.args.size) (r := rr) (nbs := nbs2) hnd hok hits hlen
        have hrep4 : AV.RepL G1 m1 (dfrV fn.ntmps s cl.args.size) d.args.toList := by
          have := dfrV_rep (G := G1) (m := m1) (N := fn.ntmps) (s := s) (vs := d.args.toList) (fun i v hi => by
            have := h4.env (fn.ntmps + 1 + i)
            rw [hE2v, List.getD_eq_getElem?_getD, hi] at this
            exact this) cl.args.size (by rw [hd]; simp)
          rwa [List.take_of_length_le (by rw [hd]; simp)] at this
        obtain ⟨G3, m3, hS3, hO3, hr3, hpost⟩ := c4 G1 m1 w4 d.args h4.sim hrep4 (fun j hj _ => h4.fresh j hj)
        refine (hcall.2 w4 G3 m3 d.args .returning hS3 hO3 hr3).mono ?_
        rintro e u' w5 ⟨rfl, v, rfl, hp⟩
        have hA5 : AtS { w0 := w, G0 := G, m0 := m, N := fn.ntmps, cv := cvLow fun i => d.args.toList.getD i undef : Ent } G1 m1 s { tmps := tmps, defers := [] } w4 :=
          ⟨h4.sim, h4.env, h4.size, marks1_nil.2 Marks.nil, trivial, h4.fresh, h4.frame, h4.base, h4.own, trivial, h4.nxOk⟩
        obtain ⟨s6, hw6, hq6⟩ := hend
        obtain ⟨G6, m6, hA6⟩ := hw6 _ _ _ (hA5.epost (fun t => c1 t (by simp)) c2 c3 (hpost v w5 hp))
        obtain ⟨v6, hv6, hp6⟩ := end_ok hrs0 rfl rfl rfl rfl hS hA6 hq6
        exact ⟨v6, hv6, v6, rfl, hp6⟩
    rcases he with rfl | rfl <;> exact key
  · obtain ⟨s', hw, hq⟩ := hq
    obtain ⟨G1, m1, hA'⟩ := hw _ _ _ hA1
    have key : ∀ w', AtS { w0 := w, G0 := G, m0 := m, N := fn.ntmps, nd := true : Ent } G1 m1 s' { tmps := a1.tmps, defers := [] } w' → ∃ v, (results fn a1.tmps).run P w' = .ok v w' ∧ ∃ v', Ending.returned v = .returned v' ∧ APost w G m (lkOf bs' nbs) r v' w' := fun w' hA' => by
      obtain ⟨v, hv, hp⟩ := end_ok hrs0 rfl rfl rfl rfl hS hA' hq
      exact ⟨v, hv, v, rfl, hp⟩
    rcases hq.1 with rfl | rfl <;> exact leaves_marks0 rfl a1.defers w1 hA' key

def dlast (l : List Oper) : Option (List Oper × Oper) := match l.reverse with
  | od :: r => some (r.reverse, od)
  | [] => none
theorem dlast_spec {l os : List Oper} {od : Oper} (h : dlast l = some (os, od)) : l = os ++ [od] := by
  unfold dlast at h
  split at h
  · rename_i x r e
    cases h
    have := congrArg List.reverse e
    simpa using this
  · cases h
def dfrOf (P : Program) (fl : List Nat) (N : Nat) (ops : Array Oper) : Option (List RO × FuncId × List Operand) :=
  match dlast ops.toList with
  | some (os, od) => match od.op with
    | .defer cl => match cl.callee with
      | .value (.func g) => if (od.guard.isNone && od.dst.isNone && cl.args.toList.all (Operand.inN N)) = true then (resolveList P fl N ops os).map fun ros => (ros, g, cl.args.toList) else none
      | _ => none
    | _ => none
  | none => none
def dfrC (P : Program) (fl : List Nat) (N : Nat) : Code → Option (List RO × FuncId × List Operand)
  | .region _ ops false => dfrOf P fl N ops
  | _ => none
def resolveD (P : Program) (fl : List Nat) (N : Nat) : Code → Option (List RCode × List RO × FuncId × List Operand × RCode)
  | .seq a b => match dfrC P fl N a with
    | some (ros, g, xs) => (resolveCode P fl N b).map fun rc => ([], ros, g, xs, rc)
    | none => match resolveCode P fl N a, resolveD P fl N b with
      | some x, some (rcs, r) => some (x :: rcs, r)
      | _, _ => none
  | _ => none
theorem dfrC_spec {P : Program} {fl : List Nat} {N : Nat} {c : Code} {ros : List RO} {g : FuncId} {xs : List Operand} (h : dfrC P fl N c = some (ros, g, xs)) : ∃ id ops os od cl, c = .region id ops false ∧ ops.toList = os ++ [od] ∧ od.op = .defer cl ∧ od.guard = none ∧ od.dst = none ∧
    cl.callee = .value (.func g) ∧ cl.args.toList.all (Operand.inN N) = true ∧ resolveList P fl N ops os = some ros ∧ xs = cl.args.toList := by
  unfold dfrC at h
  split at h
  case h_2 => cases h
  rename_i id ops
  unfold dfrOf at h
  split at h
  case h_2 => cases h
  rename_i os od hl
  split at h
  case h_2 => cases h
  rename_i cl hop
  split at h
  case h_2 => cases h
  rename_i g' hc
  rw [Option.ite_none_right_eq_some] at h
  obtain ⟨hb, h⟩ := h
  rw [Option.map_eq_some_iff] at h
  obtain ⟨ros', hr, e⟩ := h
  cases e
  simp only [Bool.and_eq_true, Option.isNone_iff_eq_none] at hb
  exact ⟨id, ops, os, od, cl, rfl, dlast_spec hl, hop, hb.1.1, hb.1.2, hc, hb.2, hr, rfl⟩
theorem resolveD_spec {P : Program} {fl : List Nat} {N : Nat} : ∀ {c : Code} {rcs : List RCode} {ros : List RO} {g : FuncId} {xs : List Operand} {rc : RCode}, resolveD P fl N c = some (rcs, ros, g, xs, rc) →
    ∃ cs id ops os od cl rest, c = cs.foldr Code.seq (.seq (.region id ops false) rest) ∧ resolveAll P fl N cs = some rcs ∧ ops.toList = os ++ [od] ∧ od.op = .defer cl ∧ od.guard = none ∧ od.dst = none ∧
    cl.callee = .value (.func g) ∧ cl.args.toList.all (Operand.inN N) = true ∧ resolveList P fl N ops os = some ros ∧ xs = cl.args.toList ∧ resolveCode P fl N rest = some rc
  | .seq a b, rcs, ros, g, xs, rc, h => by
    unfold resolveD at h
    split at h
    · rename_i ros' g' xs' hd
      rw [Option.map_eq_some_iff] at h
      obtain ⟨rc', hr, e⟩ := h
      cases e
      obtain ⟨id, ops, os, od, cl, rfl, h1, h2, h3, h4, h5, h6, h7, h8⟩ := dfrC_spec hd
      exact ⟨[], id, ops, os, od, cl, b, rfl, rfl, h1, h2, h3, h4, h5, h6, h7, h8, hr⟩
    · split at h
      case h_2 => cases h
      rename_i x rcs' r' hx hD
      cases h
      obtain ⟨cs, id, ops, os, od, cl, rest, rfl, h0, hrest⟩ := resolveD_spec hD
      exact ⟨a :: cs, id, ops, os, od, cl, rest, rfl, by unfold resolveAll; rw [hx, h0], hrest⟩
  | .skip, _, _, _, _, _, h => by unfold resolveD at h; cases h
  | .region .., _, _, _, _, _, h => by unfold resolveD at h; cases h
  | .cond .., _, _, _, _, _, h => by unfold resolveD at h; cases h
  | .block .., _, _, _, _, _, h => by unfold resolveD at h; cases h
  | .loop .., _, _, _, _, _, h => by unfold resolveD at h; cases h
  | .exit .., _, _, _, _, _, h => by unfold resolveD at h; cases h
  | .scope .., _, _, _, _, _, h => by unfold resolveD at h; cases h
  | .ret, _, _, _, _, _, h => by unfold resolveD at h; cases h
  | .rangeFunc .., _, _, _, _, _, h => by unfold resolveD at h; cases h
  | .label .., _, _, _, _, _, h => by unfold resolveD at h; cases h
  | .goto .., _, _, _, _, _, h => by unfold resolveD at h; cases h
  | .refuse .., _, _, _, _, _, h => by unfold resolveD at h; cases h

theorem ACall.of_bodyR {P : Program} (fl : List Nat) {f : FuncId} {fn : Func} {c : Code} {g : FuncId} {xs : List Operand} {rcs : List RCode} {ros : List RO} {rc : RCode} {rs : List RRes} {args : List AV} {bs : List (Option Blk)} {r : AV} {bs' : List (Option Blk)} {nbs : List Blk}
    (hf : P.funcs[f]? = some fn) (hb : fn.body = some c) (hname : (fn.name == "runtime.NumGoroutine") = false) (hm : P.follows .mixedOrders = true)
    (hrc : resolveD P fl fn.ntmps c = some (rcs, ros, g, xs, rc)) (hrs : resolveResN P fn.ntmps fn.results.toList = some rs)
    (hn : args.length ≤ fn.ntmps) (h : preRun P rcs (fun s => aops P ros s fun s' => acode P bodyY rc (DEnd P fn.ntmps bs.length g xs.length rs r bs' nbs) (dfrS fn.ntmps (xs.map s'.ev) s')) (AEndW bs.length rs r bs' nbs) (entry args bs)) : ACall P f args bs r bs' nbs := by
  obtain ⟨cs, id, ops, os, od, cl, rest, rfl, h0, h1, h2, h3, h4, h5, h6, h7, rfl, h8⟩ := resolveD_spec hrc
  exact ACall.of_bodyD fl cs hf hb hname hm h0 h1 h2 h3 h4 h5 h6 h7 h8 hrs hn (by simpa using h)
end Go.Eng

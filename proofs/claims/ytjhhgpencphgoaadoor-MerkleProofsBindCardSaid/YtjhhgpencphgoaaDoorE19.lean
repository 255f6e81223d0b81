/- The rule for a region whose order is drawn; code resolved. -/
import Derived.Test.YtjhhgpencphgoaaDoorE18
set_option linter.unusedSimpArgs false
set_option linter.unusedVariables false
namespace Go.Eng
open Go.RowKit

theorem countP_lt {α : Type} {p p' : α → Bool} : ∀ {l : List α}, (∀ x ∈ l, p' x = true → p x = true) → (∃ x ∈ l, p x = true ∧ p' x = false) → l.countP p' < l.countP p
  | [], _, h => by obtain ⟨x, hx, _⟩ := h; simp at hx
  | y :: l, h1, h2 => by
    have hle : l.countP p' ≤ l.countP p := List.countP_mono_left (fun x hx => h1 x (by simp [hx]))
    obtain ⟨x, hx, hp, hp'⟩ := h2
    rcases List.mem_cons.1 hx with rfl | hx
    · simp [hp, hp']; omega
    · have ih := countP_lt (fun z hz => h1 z (by simp [hz])) ⟨x, hx, hp, hp'⟩
      rw [List.countP_cons, List.countP_cons]
      have := h1 y (by simp)
      cases e1 : p y <;> cases e2 : p' y <;> simp_all <;> omega

theorem wpAnyIn_inv {rd : Option Nat} {P : Program} {md : Region.Mode} {ops : Array Oper} {Q : Exit → Act → World → Prop} (I : Array Bool → Act → World → Prop) (hsz : ∀ listed a w, I listed a w → listed.size = ops.size)
    (hstep : ∀ listed a w i, I listed a w → i ∈ Region.ready md ops listed → wpOpIn (FR rd) 0 P ops Q i (I (listed.setIfInBounds i true)) a w) (hend : ∀ listed a w, I listed a w → Region.ready md ops listed = [] → Q .normal a w) :
    ∀ (fuel : Nat) (listed : Array Bool) (a : Act) (w : World), (List.range ops.size).countP (fun j => !listed.getD j true) ≤ fuel → I listed a w → wpAnyIn (FR rd) 0 P md ops Q fuel listed a w
  | 0, listed, a, w, hc, hI => by
    have hr : Region.ready md ops listed = [] := by
      rw [List.eq_nil_iff_forall_not_mem]
      intro i hi
      obtain ⟨h1, o, h2, _⟩ := mem_ready.1 hi
      have hlt : i < ops.size := (Array.getElem?_eq_some_iff.1 h2).1
      have : 0 < (List.range ops.size).countP (fun j => !listed.getD j true) := List.countP_pos_iff.2 ⟨i, by simpa using hlt, by simp [h1]⟩
      omega
    exact ⟨hr, hend _ _ _ hI hr⟩
  | fuel + 1, listed, a, w, hc, hI => by
    refine ⟨fun hr => hend _ _ _ hI hr, fun i hi => ?_⟩
    obtain ⟨h1, o, h2, _⟩ := mem_ready.1 hi
    have hlt : i < ops.size := (Array.getElem?_eq_some_iff.1 h2).1
    refine wpOpIn_mono (fun a' w' h => wpAnyIn_inv I hsz hstep hend fuel _ a' w' ?_ h) (hstep _ _ _ i hI hi)
    have hil : i < listed.size := by rw [hsz _ _ _ hI]; exact hlt
    have : (List.range ops.size).countP (fun j => !(listed.setIfInBounds i true).getD j true) < (List.range ops.size).countP (fun j => !listed.getD j true) := by
      refine countP_lt (fun j _ hj => ?_) ⟨i, by simpa using hlt, by simp [h1], by simp [hil]⟩
      by_cases e : i = j
      · subst e; simp [hil] at hj
      · simpa only [Array.getD_eq_getD_getElem?, Array.getElem?_setIfInBounds_ne e] using hj
    omega

theorem envN_lastW {P : Program} {N : Nat} {ops : Array Oper} {r : Nat → RO} {st : Nat → AState} (hst : ∀ i, i < ops.size → ∃ o, ops[i]? = some o ∧ ResO P ops N o (r i) ∧ RStep P o (r i) (st i) (st (i + 1))) {E : Ent} (hN : E.N = N) : (st (lastW r E.N ops.size)).env E.N = (st 0).env E.N := by
  have : lastW r E.N ops.size = 0 := by
    rcases (lastW_spec r E.N ops.size).1 with h | ⟨k, hk, _, hd⟩
    · exact h
    · exfalso
      obtain ⟨o, _, hres, _⟩ := hst k hk
      have h9 : E.N < N := hres.lt E.N (by rw [← hres.dst]; exact hd)
      rw [hN] at h9
      exact Nat.lt_irrefl _ h9
  rw [this]

theorem draw_core {rd : Option Nat} {P : Program} {N : Nat} {id : Nat} {ops : Array Oper} {r : Nat → RO} {st : Nat → AState} (hm : P.follows .mixedOrders = true) {e : Nat} (hD : DrawOk ops r e) (hst : ∀ i, i < ops.size → ∃ o, ops[i]? = some o ∧ ResO P ops N o (r i) ∧ RStep P o (r i) (st i) (st (i + 1)))
    (hstab : ∀ i x, i < ops.size → (r i).op.sArg = some x → ∀ h, ((st i).ev x).hd? = some h → ∀ q, q ≤ ops.size → keepB (isLd (r i).op) ((st i).lk h) ((st q).lk h))
    {E : Ent} {Q : Exit → AState → Prop} {s : AState} {a : Act} {w : World} (hN : E.N = N) (hst0 : st 0 = s) (hK' : Q .normal (st ops.size)) (hA : ASim E s a w) : (Code.region id ops true).wpIn (FR rd) 0 P (cpost E Q) a w := by
  obtain ⟨G, m, hA⟩ := hA
  have h0 : ∀ j, (st 0).nx ≤ j → (st 0).own j = none := by rw [hst0]; exact hA.nxOk
  have hfresh : ∀ j, (st 0).nx ≤ j → m (.O j) = none := by rw [hst0]; exact hA.fresh
  refine wpIn_region_any hm (wpAnyIn_inv (Inv P ops r st e E) (fun _ _ _ hI => hI.size) (fun listed a w i hI hi => inv_step hst hD h0 hstab hN hI hi) (fun listed a w hI hr => ?_) _ _ _ _ ?_ ?_)
  · -- all have run
    obtain ⟨hsize, hclosed, G, m, p, hpn, hp1, hp2, hS, htm, hasz, hdef, hfr1, hfr2, hframe, hbase, hown, _⟩ := hI
    have hall : ∀ j, j < ops.size → listed.getD j false = true := by
      intro j
      induction j using Nat.strongRecOn with
      | _ j ih =>
        intro hj
        cases hl : listed.getD j false with
        | true => rfl
        | false =>
          exfalso
          have hjs : j < listed.size := by rw [hsize]; exact hj
          have : j ∈ Region.ready .any ops listed := mem_ready.2 ⟨by simp [hjs] at hl ⊢; exact hl, ops[j], by simp [hj], fun e he hb => by
            have hin : e.on ∈ afterOf ops j := by
              unfold afterOf
              rw [show ops[j]? = some ops[j] by simp [hj]]
              exact List.mem_map.2 ⟨e, List.mem_filter.2 ⟨by simpa using he, hb⟩, rfl⟩
            have hlt := hD.lt j hj _ hin
            exact ih e.on hlt (by omega)⟩
          rw [hr] at this; cases this
    have hp : p = ops.size := by
      rcases Nat.lt_or_ge p ops.size with h | h
      · have := (hp2 h).2; rw [hall p h] at this; cases this
      · omega
    subst hp
    refine ⟨_, hK', G, m, hS, fun t => ?_, hasz, hdef.1, (by rw [← lastW_env hst E.N ops.size (Nat.le_refl _), envN_lastW hst hN]; exact hdef.2), hfr2, hframe, hbase, hown, hA.noO, own_none hst h0 _ (Nat.le_refl _)⟩
    rw [← lastW_env hst t ops.size (Nat.le_refl _)]
    obtain ⟨g1, g2⟩ := lastW_spec r t ops.size
    exact htm t _ ⟨lastW_le r t _, g1.imp (fun x => x) fun ⟨k, a, b, c⟩ => ⟨k, b, hall k a, c⟩, fun j a b _ => g2 j a b⟩ (fun hq => by have := lastW_le r t ops.size; omega)
  · refine Nat.le_trans List.countP_le_length (by simp)
  · obtain ⟨p, hp1, hp2, hp3, hp4⟩ := next_eff r ops.size ops.size 0 (by omega)
    have hS0 : Sim G m (st 0).lk w.drew := by rw [hst0]; exact hA.sim.drew
    obtain ⟨G2, hS2, hF2⟩ := sim_goes hst (Nat.zero_le p) hp2 (fun j a b => hp3 j a b) (fun j a _ => hfresh j a) hS0
    have hf : ∀ j, (Array.replicate ops.size false).getD j false = false := fun j => by
      rcases Nat.lt_or_ge j ops.size with h | h
      · simp [h]
      · simp [h]
    refine ⟨by simp, (fun j _ h => by rw [hf] at h; cases h), G2, m, p, hp2, (fun j a b => by rw [hp3 j (Nat.zero_le _) a] at b; cases b), fun h => ⟨hp4 h, hf p⟩, hS2, fun t q hv _ => ?_, hA.size, ⟨hA.defers.keep fun _ _ h _ => h, by rw [hst0]; exact E.Jkeep _ _ _ hA.jok fun _ _ h _ => h⟩,
      fun k hk _ j a _ => hfresh j (Nat.le_trans (by have := nx_le hst k 0 (by omega); simpa using this) a), fun j a => hfresh j (Nat.le_trans (by have := nx_le hst ops.size 0 (by omega); simpa using this) a), ?_, hA.base, hA.own, fun _ h _ => by rw [hf] at h; cases h⟩
    · rcases hv.by_ with rfl | ⟨k, _, hk, _⟩
      · rw [hst0]; exact AV.Rep.mono hF2.le (HM.le.refl m) _ _ (hA.env t)
      · rw [hf] at hk; cases hk
    · have hd : Fr (Own E.m0) (Own E.m0) E.G0 G E.w0 w.drew := ⟨hA.frame.os, hA.frame.tape, hA.frame.output, hA.frame.size, hA.frame.heap, hA.frame.gh, hA.frame.le⟩
      exact hd.step hF2 (fun _ _ q => q.elim) (fun b hb q => hA.ownOld hb q)

def isS : ROp → Bool
  | .loadS _ _ => true
  | .faddrS _ _ => true
  | .slsA _ _ _ _ => true
  | .arrP _ _ => true
  | _ => false
theorem isS_arg {op : ROp} {x : Operand} (h : op.sArg = some x) : isS op = true := by
  cases op <;> first | rfl | (cases h; done)
def hasS (ros : List RO) : Bool := ros.any fun r => isS r.op

theorem CodeOk.draw {P : Program} {N id : Nat} {ops : Array Oper} {ros : List RO} (hm : P.follows .mixedOrders = true) (h : ResL P ops N ops.toList ros) (hd : drawOk ops ros = true) (hs : hasS ros = false) : CodeOk P N (.region id ops true) (.reg true ros) := fun rd Y E Q s a w hY hN hc hA => by
  obtain ⟨st, hst0, hlen, hK, hsteps⟩ := trace h hc
  have hlen' : ros.length = ops.size := by simpa using hlen
  have hget : ∀ i, i < ops.size → ros[i]? = some (ros.getD i default) := fun i hi => by
    rw [List.getD_eq_getElem?_getD, List.getElem?_eq_getElem (by omega)]; rfl
  refine draw_core (r := fun i => ros.getD i default) hm (drawOk_spec hd) (fun i hi => ?_) (fun i x hi he => ?_) hN hst0 (by simpa using hK) hA
  · obtain ⟨g1, g2⟩ := hsteps i ops[i] _ (by simp [hi]) (hget i hi)
    exact ⟨_, by simp [hi], g1, g2⟩
  · exfalso
    have := List.any_eq_false.1 hs _ (List.mem_of_getElem? (hget i hi))
    exact this (isS_arg he)

theorem CodeOk.drawS {P : Program} {N id : Nat} {ops : Array Oper} {ros : List RO} (hm : P.follows .mixedOrders = true) (h : ResL P ops N ops.toList ros) (hd : drawOk ops ros = true) : CodeOk P N (.region id ops true) (.regS ros) := fun rd Y E Q s a w hY hN hc hA => by
  obtain ⟨hs, hc⟩ := hc
  obtain ⟨st, hst0, hlen, hK, hkeep, hsteps⟩ := traceS h hc
  have hlen' : ros.length = ops.size := by simpa using hlen
  have hget : ∀ i, i < ops.size → ros[i]? = some (ros.getD i default) := fun i hi => by
    rw [List.getD_eq_getElem?_getD, List.getElem?_eq_getElem (by omega)]; rfl
  have hall : ∀ x, x ∈ hs → ∀ q, q ≤ ops.size → keepB (hasLd ros) ((st 0).lk x) ((st q).lk x) := fun x hx q => by
    induction q with
    | zero => exact fun _ => keepB.refl _ _
    | succ q ih => exact fun hq => (ih (by omega)).trans (hkeep q (by rw [Array.length_toList]; omega) x hx)
  refine draw_core (r := fun i => ros.getD i default) hm (drawOk_spec hd) (fun i hi => ?_) (fun i x hi he => ?_) hN hst0 (by simpa using hK) hA
  · obtain ⟨g1, g2, _⟩ := hsteps i ops[i] _ (by simp [hi]) (hget i hi)
    exact ⟨_, by simp [hi], g1, g2⟩
  · obtain ⟨_, _, g3⟩ := hsteps i ops[i] _ (by simp [hi]) (hget i hi)
    intro h hx q hq
    have he' : (ros.getD i default).op.sArg = some x := he
    unfold ldOk at g3
    simp only [he'] at g3
    obtain ⟨h', hx', hin⟩ := g3
    rw [hx] at hx'
    cases hx'
    exact ((hall h hin i (by omega)).symm.trans (hall h hin q hq)).weak fun e => List.any_eq_true.2 ⟨_, List.mem_of_getElem? (hget i hi), e⟩

/-! ### Code resolved -/
/-- A mark of a function that calls yield. -/
def yFlag : Nat := 1000000

def resolveList (P : Program) (fl : List Nat) (N : Nat) (ops : Array Oper) : List Oper → Option (List RO)
  | [] => some []
  | o :: os => match resolveRO P fl N ops o, resolveList P fl N ops os with
    | some r, some rs => some (r :: rs)
    | _, _ => none

theorem resolveList_spec {P : Program} {fl : List Nat} {N : Nat} {ops : Array Oper} : ∀ {os : List Oper} {ros : List RO}, resolveList P fl N ops os = some ros → ResL P ops N os ros
  | [], ros, h => by unfold resolveList at h; cases h; trivial
  | o :: os, ros, h => by
    unfold resolveList at h
    split at h
    · rename_i r rs h1 h2
      cases h
      exact ⟨resolveRO_spec h1, resolveList_spec h2⟩
    · cases h

theorem CodeOk.sem {P : Program} {N : Nat} {c : Code} : CodeOk P N c (.sem N c) := fun r Y E Q s a w hY hN h hA => by
  obtain rfl := (hY.1 h.1).1
  exact h.2 E a w hY hN hA

/-- A mark of a region: the state may be made smaller ahead of it. -/
def wkFlag : Nat := 2000000
def wkIf : Bool → RCode → RCode
  | true, rc => .wkr rc
  | false, rc => rc
theorem CodeOk.wkIf {P : Program} {N : Nat} {c : Code} {rc : RCode} (h : CodeOk P N c rc) : ∀ b, CodeOk P N c (wkIf b rc)
  | true => fun r Y E Q s a w hY hN ⟨s0, hw, hc⟩ hA => h r Y E Q s0 a w hY hN hc (hw _ _ _ hA)
  | false => h
def resolveCode (P : Program) (fl : List Nat) (N : Nat) : Code → Option RCode
  | .skip => some .skip
  | .region id ops draw => Option.map (wkIf (fl.contains (wkFlag + id))) <| match resolveList P fl N ops ops.toList with
    | some ros => if draw = true then (if drawOk ops ros = true then (if hasS ros = true then some (.regS ros) else some (.reg true ros)) else none) else (if ros.any (fun r => isP r.op) = true then some (.regP ros) else if fl.contains yFlag then some (.regY ros) else some (.reg false ros))
    | none => none
  | .seq a b => match resolveCode P fl N a, resolveCode P fl N b with
    | some x, some y => some (.seq x y)
    | _, _ => none
  | .cond c a b => match resolveCode P fl N a, resolveCode P fl N b with
    | some x, some y => if c.inN N = true then some (.cond c x y) else none
    | _, _ => none
  | .block id b => (resolveCode P fl N b).map (.block id)
  | .loop b => (resolveCode P fl N b).map .loop
  | .exit id => some (.exit id)
  | .scope b => (resolveCode P fl N b).map .scope
  | .ret => some .ret
  | .rangeFunc g ps as bd => some (.sem N (.rangeFunc g ps as bd))
  | .label _ => some .skip
  | _ => none

theorem resolveCode_ok {P : Program} {fl : List Nat} {N : Nat} (hm : P.follows .mixedOrders = true) : ∀ {c : Code} {rc : RCode}, resolveCode P fl N c = some rc → CodeOk P N c rc
  | .skip, rc, h => by unfold resolveCode at h; cases h; exact .skip
  | .label l, rc, h => by unfold resolveCode at h; cases h; exact .label
  | .region id ops draw, rc, h => by
    unfold resolveCode at h
    rw [Option.map_eq_some_iff] at h
    obtain ⟨rc0, h, e⟩ := h
    subst e
    refine CodeOk.wkIf ?_ _
    split at h
    · rename_i ros h1
      have h2 := resolveList_spec h1
      cases draw with
      | true =>
        simp only [if_true] at h
        split at h
        · rename_i hd
          split at h
          · cases h; exact .drawS hm h2 hd
          · rename_i hs; cases h; exact .draw hm h2 hd (by simpa using hs)
        · cases h
      | false =>
        simp only [Bool.false_eq_true, if_false] at h
        split at h
        · cases h; exact .regionP h2
        · split at h
          · cases h; exact .regionY h2
          · cases h; exact .region h2
    · cases h
  | .seq a b, rc, h => by
    unfold resolveCode at h
    split at h
    · rename_i x y h1 h2; cases h; exact .seq (resolveCode_ok hm h1) (resolveCode_ok hm h2)
    · cases h
  | .cond c a b, rc, h => by
    unfold resolveCode at h
    split at h
    · rename_i x y h1 h2
      rw [Option.ite_none_right_eq_some] at h
      obtain ⟨hx, h⟩ := h
      cases h; exact .cond hx (resolveCode_ok hm h1) (resolveCode_ok hm h2)
    · cases h
  | .block id b, rc, h => by
    unfold resolveCode at h
    rw [Option.map_eq_some_iff] at h
    obtain ⟨x, h1, rfl⟩ := h
    exact .block (resolveCode_ok hm h1)
  | .loop b, rc, h => by
    unfold resolveCode at h
    rw [Option.map_eq_some_iff] at h
    obtain ⟨x, h1, rfl⟩ := h
    exact .loop (resolveCode_ok hm h1)
  | .exit id, rc, h => by unfold resolveCode at h; cases h; exact .exit
  | .scope b, rc, h => by
    unfold resolveCode at h
    rw [Option.map_eq_some_iff] at h
    obtain ⟨x, h1, rfl⟩ := h
    exact .scope (resolveCode_ok hm h1)
  | .ret, rc, h => by unfold resolveCode at h; cases h; exact .ret
  | .rangeFunc .., rc, h => by unfold resolveCode at h; cases h; exact .sem
  | .goto _, rc, h => by unfold resolveCode at h; cases h
  | .refuse _, rc, h => by unfold resolveCode at h; cases h

end Go.Eng

import Derived.Test.YtjhhgpencphgoaaDoorE31
import Derived.Test.YtjhhgpencphgoaaDoorE20e
set_option linter.unusedSimpArgs false
set_option linter.unusedVariables false
namespace Go.Eng
open Go.RowKit
def bdp? {α β : Type} (a : Option (Option α)) (n : Option β) (f : α → Option β) : Option β := match a with
 | some (some x) => f x
 | some none => n
 | none => none
theorem F_bdp {α β : Type} {a : Option (Option α)} {n : Option β} {f : α → Option β} {r : β} (h : bdp? a n f = some r) : (a = some none ∧ n = some r) ∨ ∃ x, a = some (some x) ∧ f x = some r := by
 unfold bdp? at h
 split at h
 ·exact .inr ⟨_, rfl, h⟩
 ·exact .inl ⟨rfl, h⟩
 ·cases h
theorem bdp_some {α β : Type} {x : α} {n : Option β} {f : α → Option β} : bdp? (some (some x)) n f = f x := rfl
theorem bdp_none {α β : Type} {n : Option β} {f : α → Option β} : bdp? (some none) n f = n := rfl
section
variable {P : Program} {dr : Bool} {Y : Yh} {Q : Exit → AState → Prop} {s : AState} {d : Option Nat} {r : List RO} {K : AState → Prop} {Pn : Value → AState → Prop}
theorem p_loadD {ag : Option Nat} {x : Operand} : st P s d r K (.loadD ag x) = aload (fun _ => none) ag (kv P s d r K) (s.ev x) := (rfl)
def kIaD (K : AV → Prop) (k : Nat) : AV → AV → Prop
 | .D (.L es), .D (.I _ j) => 0 ≤ j ∧ mR K k es[j.toNat]?
 | .fl es, .D (.I _ j) => 0 ≤ j ∧ mR K k es[j.toNat]?
 | _, _ => False
theorem p_iaddrD {k : Nat} {x i : Operand} : st P s d r K (.iaddrD k x i) = kIaD (kv P s d r K) k (s.ev x) (s.ev i) := by
 refine propext ⟨?_, fun h => ?_⟩
 ·rintro ⟨kd, j, h2, h3, h4⟩
  rw [h2]
  generalize hx : s.ev x = vx at h4
  cases vx with
  | D u => cases u with
   | L es => obtain ⟨e, h5, h6⟩ := h4; refine ⟨h3, ?_⟩; rw [h5]; exact h6
   | _ => exact False.elim h4
  | fl es => obtain ⟨e, h5, h6⟩ := h4; refine ⟨h3, ?_⟩; rw [h5]; exact h6
  | _ => exact False.elim h4
 ·generalize hx : s.ev x = vx at h
  generalize hi : s.ev i = vi at h
  have key : ∀ (es : List (List DV)) (kd : IntKind) (j : Int), 0 ≤ j → mR (kv P s d r K) k es[j.toNat]? → ∃ e, es[j.toNat]? = some e ∧ e.length = k ∧ kv P s d r K (.rop e) := fun es kd j h0 hm => by
   generalize he : es[j.toNat]? = v at hm
   cases v with
   | none => exact False.elim hm
   | some e => exact ⟨e, rfl, hm⟩
  cases vx with
  | D u => cases u with
   | L es => cases vi with
    | D w => cases w with
     | I kd j =>
      obtain ⟨h0, hm⟩ := h
      refine ⟨kd, j, hi, h0, ?_⟩
      rw [hx]; exact key es kd j h0 hm
     | _ => exact False.elim h
    | _ => exact False.elim h
   | _ => cases vi <;> exact False.elim h
  | fl es => cases vi with
   | D w => cases w with
    | I kd j =>
     obtain ⟨h0, hm⟩ := h
     refine ⟨kd, j, hi, h0, ?_⟩
     rw [hx]; exact key es kd j h0 hm
    | _ => exact False.elim h
   | _ => exact False.elim h
  | _ => cases vi <;> exact False.elim h
theorem iaD_L {K : AV → Prop} {k : Nat} {es : List (List DV)} {kd : IntKind} {j : Int} : kIaD K k (.D (.L es)) (.D (.I kd j)) = (0 ≤ j ∧ mR K k es[j.toNat]?) := (rfl)
theorem iaD_f {K : AV → Prop} {k : Nat} {es : List (List DV)} {kd : IntKind} {j : Int} : kIaD K k (.fl es) (.D (.I kd j)) = (0 ≤ j ∧ mR K k es[j.toNat]?) := (rfl)
def kCvB (K : AV → Prop) : AV → Prop
 | .D (.S t) => K (.D (.L (t.map fun c => [DV.I .u8 (c.toNat : Nat)])))
 | _ => False
theorem p_cvB {x : Operand} : st P s d r K (.cvB x) = kCvB (kv P s d r K) (s.ev x) := by
 refine propext ⟨?_, fun h => ?_⟩
 ·rintro ⟨t, h1, h2⟩; rw [h1]; exact h2
 ·generalize hx : s.ev x = vx at h
  cases vx with
  | D u => cases u with
   | S t => exact ⟨t, hx, h⟩
   | _ => exact False.elim h
  | _ => exact False.elim h
theorem cvB_S {K : AV → Prop} {t : List UInt8} : kCvB K (.D (.S t)) = K (.D (.L (t.map fun c => [DV.I .u8 (c.toNat : Nat)]))) := (rfl)
def kMkI (K : AV → Prop) (t : Nat) : AV → Prop
 | .agg [] => K (.D (.C (.iface t (.agg #[]))))
 | _ => False
theorem p_mkI {t : Nat} {x : Operand} : st P s d r K (.mkI t x) = kMkI (kv P s d r K) t (s.ev x) := by
 refine propext ⟨?_, fun h => ?_⟩
 ·rintro ⟨h1, h2⟩; rw [h1]; exact h2
 ·generalize hx : s.ev x = vx at h
  cases vx with
  | agg l => cases l with
   | nil => exact ⟨hx, h⟩
   | cons _ _ => exact False.elim h
  | _ => exact False.elim h
theorem mkI_0 {K : AV → Prop} {t : Nat} : kMkI K t (.agg []) = K (.D (.C (.iface t (.agg #[])))) := (rfl)
def kIsn (K : AV → Prop) (neg : Bool) : AV → Prop
 | .D (.C .nilIface) => K (.D (.B (!neg)))
 | .D (.C (.iface _ _)) => K (.D (.B neg))
 | _ => False
theorem p_isn {neg : Bool} {x : Operand} : st P s d r K (.isn neg x) = kIsn (kv P s d r K) neg (s.ev x) := by
 refine propext ⟨?_, fun h => ?_⟩
 ·rintro ⟨v, h1, h2⟩
  rw [h1]
  split at h2
  ·exact h2
  ·exact h2
  ·exact h2.elim
 ·generalize hx : s.ev x = vx at h
  cases vx with
  | D u => cases u with
   | C v => cases v <;> first | exact ⟨_, hx, h⟩ | exact False.elim h
   | _ => exact False.elim h
  | _ => exact False.elim h
theorem isn_n {K : AV → Prop} {neg : Bool} : kIsn K neg (.D (.C .nilIface)) = K (.D (.B (!neg))) := (rfl)
theorem isn_i {K : AV → Prop} {neg : Bool} {t : Nat} {v : Value} : kIsn K neg (.D (.C (.iface t v))) = K (.D (.B neg)) := (rfl)
theorem tas_of {t : Nat} {x : Operand} (h1 : s.ev x = .D (.C (.iface t (.agg #[])))) (h : aops P r (s.put d (.tup [.agg [], .D (.B true)]) [] []) K) : st P s d r K (.tas t x) := ⟨h1, h⟩
def pk (P : Program) (dr : Bool) (r : List RO) (K : AState → Prop) (Pn : Value → AState → Prop) : AState → Prop := fun s' => aopsP P dr r s' K Pn
def pq (Q : Exit → AState → Prop) : Value → AState → Prop := fun v s' => Q (.panic [{ v := v, recovered := false }]) s'
theorem c_regP {ros : List RO} : acode P Y (.regP ros) Q s = aopsP P false ros s (Q .normal) (pq Q) := (rfl)
def pqD (ros : List RO) (Q : Exit → AState → Prop) : Value → AState → Prop := fun v s' => Q (.panic [{ v := v, recovered := false }]) (maskR ros s')
theorem c_regDP {ros : List RO} : acode P Y (.regDP ros) Q s = aopsP P true ros s (Q .normal) (pqD ros Q) := (rfl)
theorem pqD_ {v : Value} {ros : List RO} {s' : AState} : pqD ros Q v s' = Q (.panic [{ v := v, recovered := false }]) (maskR ros s') := (rfl)
theorem mask_nil : maskR [] s = s := (rfl)
theorem mask_cons {ro : RO} : maskR (ro :: r) s = maskR r (s.put ro.dst .any [] []) := (rfl)
theorem pk_ {s' : AState} : pk P dr r K Pn s' = aopsP P dr r s' K Pn := (rfl)
theorem pq_ {v : Value} {s' : AState} : pq Q v s' = Q (.panic [{ v := v, recovered := false }]) s' := (rfl)
theorem oP_nil : aopsP P dr [] s K Pn = K s := (rfl)
def oPb (P : Program) (dr : Bool) (s : AState) (r : List RO) (K : AState → Prop) (Pn : Value → AState → Prop) (ro : RO) : Bool → Prop
 | false => aops P [ro] s (pk P dr r K Pn)
 | true => aopsP P dr (ro :: r) s K Pn
theorem oP_cons {ro : RO} : aopsP P dr (ro :: r) s K Pn = oPb P dr s r K Pn ro (isP ro.op) := by
 obtain ⟨d, op, g⟩ := ro
 cases op <;> rfl
theorem oPb_f {ro : RO} : oPb P dr s r K Pn ro false = aops P [ro] s (pk P dr r K Pn) := (rfl)
def kPan (Pn : Value → AState → Prop) (s : AState) : AV → Prop
 | .D (.C (.iface t v)) => Pn (.iface t v) s
 | _ => False
theorem oPb_pan {x : Operand} : oPb P dr s r K Pn ⟨d, .pan x, none⟩ true = kPan Pn s (s.ev x) := by
 show aopsP P dr (⟨d, .pan x, none⟩ :: r) s K Pn = _
 refine propext ⟨?_, fun h => ?_⟩
 ·rintro ⟨_, t, v, h1, h2⟩; rw [h1]; exact h2
 ·generalize hx : s.ev x = vx at h
  cases vx with
  | D u => cases u with
   | C v => cases v <;> first | exact ⟨rfl, _, _, hx, h⟩ | exact False.elim h
   | _ => exact False.elim h
  | _ => exact False.elim h
theorem kPan_i {t : Nat} {v : Value} : kPan Pn s (.D (.C (.iface t v))) = Pn (.iface t v) s := (rfl)
theorem callP_flat {fn : Nat} {f : Operand} {args : List Operand} {caps : List AV} {vals : List AV} {rr : AV} {pv : Value} (hf : s.ev f = .clo fn caps) (hc : AOut P fn vals pv (some (rr, []))) (ha : AV.convL s.lk (fun _ => none) (args.map s.ev ++ caps) = vals) (hr : AV.flat rr = true)
  (h : aopsP P dr r (s.put d rr [] []) K Pn) : oPb P dr s r K Pn ⟨d, .callP f args, none⟩ true := by
 subst ha
 refine ⟨rfl, fn, caps, hf, .inl ⟨rr, [], fun _ => ⟨hr, rfl⟩, hc, ?_⟩⟩
 show aopsP P dr r _ K Pn
 rw [AV.flat_ren rr hr, if_pos ⟨hr, rfl⟩]
 exact h
theorem callP_new {fn : Nat} {f : Operand} {args : List Operand} {caps : List AV} {vals : List AV} {rr : AV} {nbs : List Blk} {pv : Value} (hf : s.ev f = .clo fn caps) (hc : AOut P fn vals pv (some (rr, nbs))) (ha : AV.convL s.lk (fun _ => none) (args.map s.ev ++ caps) = vals)
  (hr : (AV.flat rr && nbs.isEmpty) = false) (h : aopsP P false r (s.put d (AV.ren (backHd [] s.nx) rr) (nbs.map (Blk.ren (backHd [] s.nx))) (fzL s.lk (AV.rowsL (args.map s.ev ++ caps)))) K Pn) : oPb P false s r K Pn ⟨d, .callP f args, none⟩ true := by
 subst ha
 refine ⟨rfl, fn, caps, hf, .inl ⟨rr, nbs, fun e => (by cases e), hc, ?_⟩⟩
 show aopsP P false r _ K Pn
 rw [if_neg (by rintro ⟨e1, rfl⟩; rw [e1] at hr; cases hr)]
 exact h
theorem callP_pn {fn : Nat} {f : Operand} {args : List Operand} {caps : List AV} {vals : List AV} {pv : Value} (hf : s.ev f = .clo fn caps) (hc : AOut P fn vals pv none) (ha : AV.convL s.lk (fun _ => none) (args.map s.ev ++ caps) = vals)
  (h : Pn pv s) : oPb P dr s r K Pn ⟨d, .callP f args, none⟩ true := by
 subst ha
 exact ⟨rfl, fn, caps, hf, .inr ⟨pv, hc, h⟩⟩
theorem x_seqP {next : AState → Prop} {ch : List PanicEntry} : exSeq next Q (.panic ch) s = Q (.panic ch) s := (rfl)
theorem x_blkP {id : Nat} {ch : List PanicEntry} : exBlock id Q (.panic ch) s = Q (.panic ch) s := (rfl)
theorem x_scP {ch : List PanicEntry} : exScope Q (.panic ch) s = Q (.panic ch) s := (rfl)
section
variable {N n : Nat} {g : FuncId} {xs : List Operand} {ros : List RO} {rc : RCode} {rs : List RRes} {r : AV} {bs' : List (Option Blk)} {nbs : List Blk}
def kR2 (P : Program) (N n : Nat) (g : FuncId) (xs : List Operand) (rc : RCode) (rs : List RRes) (r : AV) (bs' : List (Option Blk)) (nbs : List Blk) : AState → Prop := fun s' => acode P bodyY rc (DEndR P N n g xs.length rs r bs' nbs) (dfrS N (xs.map s'.ev) s')
def kR1 (P : Program) (N n : Nat) (g : FuncId) (xs : List Operand) (ros : List RO) (rc : RCode) (rs : List RRes) (r : AV) (bs' : List (Option Blk)) (nbs : List Blk) : AState → Prop := fun s => aops P ros s (kR2 P N n g xs rc rs r bs' nbs)
theorem kR1_ {s : AState} : kR1 P N n g xs ros rc rs r bs' nbs s = aops P ros s (kR2 P N n g xs rc rs r bs' nbs) := (rfl)
theorem kR2_ {s : AState} : kR2 P N n g xs rc rs r bs' nbs s = acode P bodyY rc (DEndR P N n g xs.length rs r bs' nbs) (dfrS N (xs.map s.ev) s) := (rfl)
theorem DEndR.ret {e : Exit} {s : AState} {k : Nat} {vals : List AV} {hbs : List (Option Blk)} {bs2 : List (Option Blk)} (hs : List Hd) (he : e = .normal ∨ e = .ret) (hc : DRec P g vals hbs .returning .returning bs2) (hnd : hs.Nodup) (hl : bs2.length = hs.length)
  (hok : hsOk s.nx hs = true) (h1 : AV.convL s.lk (phiH hs) (dfrV N s k) = vals) (h2 : handed s.lk hs = hbs) (h : AEndW n rs r bs' nbs .ret (afterE s hs (dfrV N s k) none .any bs2 [])) : DEndR P N n g k rs r bs' nbs e s :=
 ⟨_, _, .inl ⟨he, rfl, rfl⟩, hs, bs2, hnd, hok, hl, by rw [h1, h2]; exact hc, h⟩
theorem DEndR.pan {s : AState} {k : Nat} {pv : Value} {vals : List AV} {hbs : List (Option Blk)} {bs2 : List (Option Blk)} (hs : List Hd) (hc : DRec P g vals hbs (.panicking [{ v := pv, recovered := false }]) (.panicking [{ v := pv, recovered := true }]) bs2) (hnd : hs.Nodup) (hl : bs2.length = hs.length)
  (hok : hsOk s.nx hs = true) (h1 : AV.convL s.lk (phiH hs) (dfrV N s k) = vals) (h2 : handed s.lk hs = hbs) (h : AEndW n rs r bs' nbs .ret (afterE s hs (dfrV N s k) none .any bs2 [])) : DEndR P N n g k rs r bs' nbs (.panic [{ v := pv, recovered := false }]) s :=
 ⟨_, _, .inr ⟨pv, rfl, rfl, rfl⟩, hs, bs2, hnd, hok, hl, by rw [h1, h2]; exact hc, h⟩
theorem ACall.of_bodyRK (fl : List Nat) {f : FuncId} {fn : Func} {c : Code} {rcs : List RCode} {args : List AV} {bs : List (Option Blk)}
  (hf : P.funcs[f]? = some fn) (hb : fn.body = some c) (hname : (fn.name == "runtime.NumGoroutine") = false) (hm : P.follows .mixedOrders = true)
  (hrc : resolveD P fl fn.ntmps c = some (rcs, ros, g, xs, rc)) (hrs : resolveResN P fn.ntmps fn.results.toList = some rs) (hN : fn.ntmps = N)
  (hn : args.length ≤ fn.ntmps) (h : preRun P rcs (kR1 P N bs.length g xs ros rc rs r bs' nbs) (AEndW bs.length rs r bs' nbs) (entry args bs)) : ACall P f args bs r bs' nbs := by
 subst hN
 exact ACall.of_bodyRR fl hf hb hname hm hrc hrs hn h
end
def unr (P : Program) (Y : Yh) (b : RCode) (Q : Exit → AState → Prop) : Nat → AState → Prop
 | 0 => fun _ => False
 | n + 1 => fun s => acode P Y b (exSeq (unr P Y b Q n) Q) s
theorem unr_F {b : RCode} : ∀ (n : Nat) , unr P Y b Q n = unrF (acode P Y b) Q n
 | 0 => rfl
 | n + 1 => by funext s; show acode P Y b (exSeq (unr P Y b Q n) Q) s = acode P Y b (exSeq (unrF (acode P Y b) Q n) Q) s; rw [unr_F n]
theorem unr_of {b : RCode} (n : Nat) (h : unr P Y b Q n s) : acode P Y (.loop b) Q s := .inr ⟨n, s, Wk.refl s, unr_F n ▸ h⟩
theorem unr_s {b : RCode} {n : Nat} (h : acode P Y b (exSeq (unr P Y b Q n) Q) s) : unr P Y b Q (n + 1) s := h
end
theorem bytesOf_td {xs : List Int} {a b : Nat} : bytesOf (((xs.map (rI .u8)).drop a).take b) = some (bytesI ((xs.drop a).take b)) := by rw [← List.map_drop, ← List.map_take, bytesOf_map]
theorem bytesOf_d {xs : List Int} {a : Nat} : bytesOf ((xs.map (rI .u8)).drop a) = some (bytesI (xs.drop a)) := by rw [← List.map_drop, bytesOf_map]
theorem bytesOf_t {xs : List Int} {b : Nat} : bytesOf ((xs.map (rI .u8)).take b) = some (bytesI (xs.take b)) := by rw [← List.map_take, bytesOf_map]
theorem endP_some0 {s : AState} {rs : List RRes} {pv : Value} {p : AV × List Blk} {e : Exit} (h : AEndW 0 rs p.1 [] p.2 e s) : AEndP rs pv (some p) e s := h
theorem endP_none0 {s : AState} {rs : List RRes} {pv : Value} : AEndP rs pv none (.panic [{ v := pv, recovered := false }]) s := rfl
theorem intsS_take {t : Str} {n : Nat} : intsS (t.take n) = (intsS t).take n := by unfold intsS; rw [List.map_take]
theorem intsS_drop {t : Str} {n : Nat} : intsS (t.drop n) = (intsS t).drop n := by unfold intsS; rw [List.map_drop]
attribute [push_cast] bytesOf_td bytesOf_d bytesOf_t intsS_take intsS_drop
theorem w6_1 : IntKind.wrap .i64 1 = 1 := by decide
theorem w6_2 : IntKind.wrap .i64 2 = 2 := by decide
theorem w6_3 : IntKind.wrap .i64 3 = 3 := by decide
theorem w6_4 : IntKind.wrap .i64 4 = 4 := by decide
theorem w6_5 : IntKind.wrap .i64 5 = 5 := by decide
theorem w6_6 : IntKind.wrap .i64 6 = 6 := by decide
theorem w6_7 : IntKind.wrap .i64 7 = 7 := by decide
theorem w6_8 : IntKind.wrap .i64 8 = 8 := by decide
theorem w6_16 : IntKind.wrap .i64 16 = 16 := by decide
theorem w6_24 : IntKind.wrap .i64 24 = 24 := by decide
theorem w6_32 : IntKind.wrap .i64 32 = 32 := by decide
theorem w6_40 : IntKind.wrap .i64 40 = 40 := by decide
theorem w6_48 : IntKind.wrap .i64 48 = 48 := by decide
theorem w6_56 : IntKind.wrap .i64 56 = 56 := by decide
theorem w6_64 : IntKind.wrap .i64 64 = 64 := by decide
attribute [push_cast] w6_16 w6_24 w6_32 w6_40 w6_48 w6_56 w6_64
attribute [push_cast] w6_1 w6_2 w6_3 w6_4 w6_5 w6_6 w6_7 w6_8
theorem flat_setA {k : IntKind} {n i : Nat} {v : Int} {x : Arr n} : List.map AV.D (((x.l.map (rI k)).set i [DV.I k v]).take n).flatten = (x.l.map (aI k)).set i (AV.D (DV.I k v)) := by
 rw [show [DV.I k v] = rI k v from rfl, ← List.map_set, List.take_of_length_le (by rw [List.length_map, List.length_set, x.len]; exact Nat.le_refl _), flat_rI, List.map_map, List.map_set]; rfl
theorem cvL_set {lk : Look} {f : Hd → Option Hd} {k : IntKind} {i : Nat} {v : Int} {l : List Int} : AV.convL lk f ((l.map (aI k)).set i (AV.D (DV.I k v))) = (l.map (aI k)).set i (AV.D (DV.I k v)) := by
 rw [show AV.D (DV.I k v) = aI k v from rfl, ← List.map_set, cvL_aI]
attribute [push_cast] flat_setA cvL_set
def cA (l : List Value) : List AV := l.map fun v => match v with
  | .bool x => .D (.B x)
  | .int k n => .D (.I k n)
  | .string s => .D (.S s.data.toList)
  | .slice none 0 0 => .fl []
  | v => .D (.C v)
theorem s_cAgg {s : AState} {l : List Value} : s.ev (.const (.agg l.toArray)) = .agg (cA l) := (rfl)
theorem cA_nil : cA [] = [] := (rfl)
theorem cA_B {x : Bool} {r : List Value} : cA (.bool x :: r) = .D (.B x) :: cA r := (rfl)
theorem cA_I {k : IntKind} {n : Int} {r : List Value} : cA (.int k n :: r) = .D (.I k n) :: cA r := (rfl)
theorem cA_S {l : List UInt8} {r : List Value} : cA (.string ⟨l.toArray⟩ :: r) = .D (.S l) :: cA r := (rfl)
theorem cA_N {r : List Value} : cA (.slice none 0 0 :: r) = .fl [] :: cA r := (rfl)
attribute [push_cast] s_cAgg cA_nil cA_B cA_I cA_S cA_N
attribute [push_cast] c_regDP pqD_ mask_nil mask_cons p_loadD p_iaddrD iaD_L iaD_f p_cvB cvB_S p_mkI mkI_0 p_isn isn_n isn_i c_regP pk_ pq_ oP_nil oP_cons oPb_f oPb_pan kPan_i isP x_seqP x_blkP x_scP kR1_ kR2_
end Go.Eng

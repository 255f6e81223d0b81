import Derived.Test.YtjhhgpencphgoaaDoorE20
set_option linter.unusedSimpArgs false
set_option linter.unusedVariables false
namespace Go.Eng
open Go.RowKit

section
variable (P : Program) (s : AState) (d : Option Nat) (r : List RO) (K : AState → Prop)
def cnd (Y : Yh) (a b : RCode) (Q : Exit → AState → Prop) : AV → Prop := acond (acode P Y a Q s) (acode P Y b Q s)
def ks : AState → Prop := fun s' => aops P r s' K
def kv : AV → Prop := fun a => aops P r (s.put d a [] []) K
def st (op : ROp) : Prop := sstep P s ⟨d, op, none⟩ (ks P r K)
def gd (want : Bool) (op : ROp) : AV → Prop
 | .D (.B c) => (c = want → st P s d r K op) ∧ (¬ c = want → aops P r (s.put d .un [] []) K)
 | .D (.C (.tuple _)) => aops P r (s.put d .un [] []) K
 | _ => False
def kPick (va vb : AV) : AV → Prop
 | .D (.B x) => aops P r (s.put d (if x = true then va else vb) [] []) K
 | _ => False
def kBox : Option (List AV) → Prop
 | some cs => aops P r (s.put d (.ptr (.O s.nx) 0) [.box cs] []) K
 | none => False
def kBs (k n : Nat) (hs : List Hd) : Option (List (List DV)) → Prop
 | some es => aops P r (s.put d (.sl (.O s.nx) k 0 n) [.row true k es] hs) K
 | none => False
def kNwR : Option (List DV) → Prop
 | some ds => aops P r (s.put d (.eptr (.O s.nx) 1 0 0) [.row true 1 (ds.map fun d => [d])] []) K
 | none => False
def kEq1 (neg : Bool) : Option Bool → Prop
 | some b => aops P r (s.put d (.D (.B (if neg = true then !b else b))) [] []) K
 | none => False
def kEq0 (neg : Bool) (kds : List Nat) : AV → AV → Prop
 | .agg xs, .agg ys => kEq1 P s d r K neg (sameCells kds xs ys)
 | _, _ => False
def kBeq (neg : Bool) : AV → AV → Prop
 | .D (.B p), .D (.B q) => aops P r (s.put d (.D (.B (if neg = true then !(p == q) else (p == q)))) [] []) K
 | _, _ => False
def kLen : Option Nat → Prop
 | some m => aops P r (s.put d (.D (.I .i64 m)) [] []) K
 | none => False
def kNil (neg : Bool) : Option Nat → Prop
 | some m => if m = 0 then aops P r (s.put d .ab [] []) K else aops P r (s.put d (.D (.B neg)) [] []) K
 | none => False
def kMm (isMax : Bool) : AV → AV → Prop
 | .D (.I k a), .D (.I k' b) => k' = k ∧ aops P r (s.put d (.D (.I k (if isMax = true then max a b else min a b))) [] []) K
 | _, _ => False
def kCvI (k : IntKind) : AV → Prop
 | .D (.I _ j) => aops P r (s.put d (.D (.I k (k.wrap j))) [] []) K
 | _ => False
def kCvS1 : Option (List UInt8) → Prop
 | some t => aops P r (s.put d (.D (.S t)) [] []) K
 | none => False
def kCvS0 (v : AV) : Option (List (List DV)) → Prop
 | some ys => AV.isS v = false ∧ kCvS1 P s d r K (bytesOf ys)
 | none => False
def kApp1 (k : Nat) (es : List (List DV)) (hs : List Hd) (ys : List (List DV)) : Prop :=
 if ys = [] ∧ es ≠ [] then aops P r (s.put d (.fl es) [] []) K else aops P r (s.put d (.sl (.O s.nx) k 0 (es.length + ys.length)) [.row true k (es ++ ys)] hs) K
def kApp0 (k bytes : Nat) (hs : List Hd) : AV → Option (List (List DV)) → Prop
 | .fl es, some ys => Uni k es ∧ Uni k ys ∧ (es.length + ys.length) * bytes ≤ 140737488355328 ∧ kApp1 P s d r K k es hs ys
 | _, _ => False
def kApE1 (h : Hd) (k bytes len : Nat) (es : List (List DV)) : Option (List (List DV)) → Prop
 | some ys => Uni k es ∧ Uni k ys ∧ oneL ys = true ∧ (len + ys.length) * bytes ≤ 140737488355328 ∧ aops P r ((s.setBlk h none).put d (.sl (.O s.nx) k 0 (len + ys.length)) [.row true k (es ++ ys)] []) K
 | none => False
def kApE0 (h : Hd) (k k' bytes off len : Nat) (ys : Option (List (List DV))) : Option Blk → Prop
 | some (.row true k2 es) => k' = k ∧ off = 0 ∧ k2 = k ∧ len = es.length ∧ kApE1 P s d r K h k bytes len es ys
 | _ => False
def kApN (k bytes : Nat) (hs : List Hd) : Option (List (List DV)) → Prop
 | some ys => d.isSome = true ∧ Uni k ys ∧ ys.length * bytes ≤ 140737488355328 ∧ aops P r (s.put d (.sl (.O s.nx) k 0 ys.length) [.row true k ys] hs) K
 | none => False
def kApE (k bytes : Nat) (hs : List Hd) (ys : Option (List (List DV))) : AV → Prop
 | .sl h k' off len => kApE0 P s d r K h k k' bytes off len ys (s.lk h)
 | .fl [] => kApN P s d r K k bytes hs ys
 | .fl (e :: es) => kApp0 P s d r K k bytes hs (.fl (e :: es)) ys
 | _ => False
def kClr1 (k : Nat) (zs : List DV) (h : Hd) (off len : Nat) : Option Blk → Prop
 | some (.row true k' es) => k' = k ∧ off + len ≤ es.length ∧ aops P r ((s.setBlk h (some (.row true k (es.take off ++ List.replicate len zs ++ es.drop (off + len))))).put d .any [] []) K
 | _ => False
def kClr (k : Nat) (zs : List DV) : AV → Prop
 | .sl h k' off len => k' = k ∧ kClr1 P s d r K k zs h off len (s.lk h)
 | _ => False
def kCpy1 (k : Nat) (iS : Bool) (h : Hd) (off len : Nat) : Option (List (List DV)) → Option Blk → Prop
 | some ys, some (.row true k' es) => k' = k ∧ off + len ≤ es.length ∧ Uni k ys ∧ oneL (ys.take (min ys.length len)) = true ∧
  aops P r ((s.setBlk h (some (.row true k (es.take off ++ ys.take (min ys.length len) ++ es.drop (off + min ys.length len))))).put d (.D (.I .i64 (min ys.length len : Nat))) [] []) K
 | _, _ => False
def kCpy (k : Nat) (iS : Bool) (ys : Option (List (List DV))) : AV → Prop
 | .sl h k' off len => k' = k ∧ kCpy1 P s d r K k iS h off len ys (s.lk h)
 | .slk h k' off len _ => k' = k ∧ kCpy1 P s d r K k iS h off len ys (s.lk h)
 | _ => False
def kCap : AV → Prop
 | .slk _ _ _ _ cap => aops P r (s.put d (.D (.I .i64 cap)) [] []) K
 | _ => False
def kApZ1 (k k' bytes : Nat) (zs : List DV) (off len cap : Nat) (j : Int) : Option Blk → Prop
 | some (.row _ k2 es) => k' = k ∧ off = 0 ∧ k2 = k ∧ 0 ≤ j ∧ len ≤ es.length ∧ Uni k es ∧ cap < len + j.toNat ∧ (len + j.toNat) * bytes ≤ 140737488355328 ∧
   aops P r (s.put d (.sl (.O s.nx) k 0 (len + j.toNat)) [.row true k (es.take len ++ List.replicate j.toNat zs)] []) K
 | _ => False
def kApZ0 (k bytes : Nat) (zs : List DV) : AV → AV → Prop
 | .slk h k' off len cap, .D (.I _ j) => kApZ1 P s d r K k k' bytes zs off len cap j (s.lk h)
 | _, _ => False
def kMks (k bytes : Nat) (zs : List DV) : AV → AV → Prop
 | .D (.I _ l), .D (.I _ c) => 0 ≤ l ∧ l ≤ c ∧ c ≤ 9223372036854775807 ∧ (bytes : Int) * c ≤ 281474976710656 ∧ aops P r (s.put d (.sl (.O s.nx) k 0 l.toNat) [.row true k (List.replicate l.toNat zs)] []) K
 | _, _ => False
def ab (zs : List AV) (ps : List (Nat × Nat × Operand)) (acc : List (Nat × List AV)) : Prop := abuild s.ev zs ps acc (kv P s d r K)
def kAb (zs : List AV) (o sz : Nat) (ps : List (Nat × Nat × Operand)) (acc : List (Nat × List AV)) : Option (List AV) → Prop
 | some cs => cs.length = sz ∧ o + sz ≤ zs.length ∧ ab P s d r K zs ps ((o, cs) :: acc)
 | none => False
end

section
variable (K : AV → Prop)
def mA : Option AV → Prop
 | some a => K a
 | none => False
def mD : Option DV → Prop
 | some x => K (.D x)
 | none => False
def mR (k : Nat) : Option (List DV) → Prop
 | some e => e.length = k ∧ K (.rop e)
 | none => False
def mC : Option UInt8 → Prop
 | some c => K (.D (.I .u8 c.toNat))
 | none => False
def kLd0 (off : Nat) : Option Blk → Prop
 | some (.box cs) => mA K cs[off]?
 | _ => False
def kLd1 (off n : Nat) : Option Blk → Prop
 | some (.box cs) => off + n ≤ cs.length ∧ K (.agg ((cs.drop off).take n))
 | _ => False
def kEl0 (off : Nat) : Option (List DV) → Prop
 | some e => mD K e[off]?
 | none => False
def kEl1 (off n : Nat) : Option (List DV) → Prop
 | some e => off + n ≤ e.length ∧ K (.agg (((e.drop off).take n).map .D))
 | none => False
def kLe0 (k ix off : Nat) : Option Blk → Prop
 | some (.row _ k' es) => k' = k ∧ kEl0 K off es[ix]?
 | _ => False
def kLe2 (ix off n : Nat) (es : List (List DV)) : Bool → Prop
 | true => off = 0 ∧ ix < es.length ∧ ix + n ≤ es.length ∧ K (.agg ((((es.drop ix).take n).flatten).map .D))
 | false => kEl1 K off n es[ix]?
def kLe1 (k ix off n : Nat) : Option Blk → Prop
 | some (.row _ k' es) => k' = k ∧ kLe2 K ix off n es (k == 1)
 | _ => False
def afaddr (off : Nat) : AV → Prop
 | .ptr h o => K (.ptr h (o + off))
 | .eptr h k ix o => K (AV.eadd h k ix o off)
 | .rop ds => K (.rop (ds.drop off))
 | _ => False
def kIa (k : Nat) : AV → AV → Prop
 | .D (.L es), .D (.I _ j) => 0 ≤ j ∧ mR K k es[j.toNat]?
 | .fl es, .D (.I _ j) => 0 ≤ j ∧ mR K k es[j.toNat]?
 | .sl h k' off len, .D (.I _ j) => 0 ≤ j ∧ k' = k ∧ j < len ∧ K (.eptr h k (off + j.toNat) 0)
 | _, _ => False
def kIx : AV → AV → Prop
 | .D (.S t), .D (.I _ j) => 0 ≤ j ∧ mC K t[j.toNat]?
 | _, _ => False
def kF0 (off : Nat) : AV → Prop
 | .agg cs => mA K cs[off]?
 | _ => False
def kF1 (off m : Nat) : AV → Prop
 | .agg cs => off + m ≤ cs.length ∧ K (.agg ((cs.drop off).take m))
 | _ => False
def kExt (i : Nat) : AV → Prop
 | .tup cs => mA K cs[i]?
 | _ => False
def bd (ev : Operand → AV) : Option Operand → Option AV
 | none => none
 | some x => some (ev x)
def bOk : Option AV → Prop
 | none => True
 | some (.D (.I _ n)) => 0 ≤ n
 | _ => False
def bN (dflt : Nat) : Option AV → Nat
 | some (.D (.I _ n)) => n.toNat
 | _ => dflt
def kSls (lo hi : Option AV) : AV → Prop
 | .D (.S t) => bOk lo ∧ bOk hi ∧ bN 0 lo ≤ bN t.length hi ∧ bN t.length hi ≤ t.length ∧ K (.D (.S ((t.drop (bN 0 lo)).take (bN t.length hi - bN 0 lo))))
 | _ => False
def kSll (k : Nat) (lo hi : Option AV) : AV → Prop
 | .D (.L es) => Uni k es ∧ bOk lo ∧ bOk hi ∧ bN 0 lo ≤ bN es.length hi ∧ bN es.length hi ≤ es.length ∧ K (.D (.L ((es.drop (bN 0 lo)).take (bN es.length hi - bN 0 lo))))
 | .fl es => Uni k es ∧ bOk lo ∧ bOk hi ∧ bN 0 lo ≤ bN es.length hi ∧ bN es.length hi ≤ es.length ∧
   K (if bN es.length hi = es.length then .fl ((es.drop (bN 0 lo)).take (bN es.length hi - bN 0 lo)) else .D (.L ((es.drop (bN 0 lo)).take (bN es.length hi - bN 0 lo))))
 | .sl hd k' off len => k' = k ∧ bOk lo ∧ bOk hi ∧ bN 0 lo ≤ bN len hi ∧ bN len hi ≤ len ∧ K (.sl hd k (off + bN 0 lo) (bN len hi - bN 0 lo))
 | .slk hd k' off len cap => k' = k ∧ bOk lo ∧ bOk hi ∧ bN 0 lo ≤ bN len hi ∧ bN len hi ≤ cap ∧ bN 0 lo < cap ∧ K (.slk hd k (off + bN 0 lo) (bN len hi - bN 0 lo) (cap - bN 0 lo))
 | _ => False
end

section
variable {s : AState} {K : AState → Prop}
def kSt (sz off : Nat) (h : Hd) : Option (List AV) → Option Blk → Prop
 | some ys, some (.box cs) => ys.length = sz ∧ off + sz ≤ cs.length ∧ K (s.setBlk h (some (.box (cs.take off ++ ys ++ cs.drop (off + sz)))))
 | _, _ => False
def kSe1 (sz : Nat) (h : Hd) (k ix off : Nat) (es : List (List DV)) (ds : List DV) : Option (List DV) → Prop
 | some e => ds.length = sz ∧ off + sz ≤ e.length ∧ K (s.setBlk h (some (.row true k (es.set ix (e.take off ++ ds ++ e.drop (off + sz))))))
 | none => False
def kSe2 (sz : Nat) (h : Hd) (k ix off : Nat) (es : List (List DV)) (ds : List DV) : Bool → Prop
 | true => off = 0 ∧ ds.length = sz ∧ ix + sz ≤ es.length ∧ K (s.setBlk h (some (.row true 1 (es.take ix ++ (ds.map fun d => [d]) ++ es.drop (ix + sz)))))
 | false => kSe1 (s := s) (K := K) sz h k ix off es ds es[ix]?
def kSe0 (sz : Nat) (h : Hd) (k ix off : Nat) : Option (List DV) → Option Blk → Prop
 | some ds, some (.row true k' es) => k' = k ∧ kSe2 (s := s) (K := K) sz h k ix off es ds (k == 1 && !(sz == 1))
 | _, _ => False
end

section
variable {P : Program} {Y : Yh} {s : AState} {d : Option Nat} {r : List RO} {K : AState → Prop} {Q : Exit → AState → Prop} {env : Nat → AV} {bs own : Nat → Option Blk} {nx : Nat}

theorem c_skip : acode P Y .skip Q s = Q .normal s := (rfl)
theorem c_reg {d : Bool} {ros : List RO} : acode P Y (.reg d ros) Q s = aops P ros s (Q .normal) := (rfl)
def kS (P : Program) (ld : Bool) (hs : List Hd) (s : AState) (r : List RO) (K : AState → Prop) : AState → Prop := fun s' => keepH ld hs s s' ∧ aopsS P ld hs r s' K
theorem kS_ {ld : Bool} {hs : List Hd} {s' : AState} : kS P ld hs s r K s' = (keepH ld hs s s' ∧ aopsS P ld hs r s' K) := (rfl)
theorem oS_nil {ld : Bool} {hs : List Hd} : aopsS P ld hs [] s K = K s := (rfl)
theorem oS_cons {ld : Bool} {hs : List Hd} {ro : RO} : aopsS P ld hs (ro :: r) s K = (ldOk hs ro.op s.ev ∧ aops P [ro] s (kS P ld hs s r K)) := (rfl)
theorem kh_nil {ld : Bool} {s' : AState} : keepH ld [] s s' = True := by simp [keepH]
theorem kh_consT {h : Hd} {hs : List Hd} {s' : AState} : keepH true (h :: hs) s s' = (s'.lk h = s.lk h ∧ keepH true hs s s') := by simp [keepH, keepB]
theorem kh_consF {h : Hd} {hs : List Hd} {s' : AState} : keepH false (h :: hs) s s' = (shp (s'.lk h) = shp (s.lk h) ∧ keepH false hs s s') := by simp [keepH, keepB]
theorem shp_r {mt : Bool} {k : Nat} {es : List (List DV)} : shp (some (.row mt k es)) = some (k, es.length) := (rfl)
def ldH1 (hs : List Hd) : Option Hd → Prop
 | some h => h ∈ hs
 | none => False
def ldH (hs : List Hd) (a : AV) : Prop := ldH1 hs a.hd?
theorem lo_S {hs : List Hd} {op : ROp} {x : Operand} {ev : Operand → AV} (h : op.sArg = some x) : ldOk hs op ev = ldH hs (ev x) := by
 unfold ldOk
 simp only [h]
 refine propext ⟨?_, fun h => ?_⟩
 ·rintro ⟨h, e, hm⟩; unfold ldH; rw [e]; exact hm
 ·unfold ldH at h
  show ∃ h, (ev x).hd? = some h ∧ h ∈ hs
  generalize hx : (ev x).hd? = v at h
  cases v with
  | some h' => exact ⟨h', rfl, h⟩
  | none => exact False.elim h
theorem lh_p {hs : List Hd} {h : Hd} {off : Nat} : ldH hs (.ptr h off) = (h ∈ hs) := (rfl)
theorem lh_e {hs : List Hd} {h : Hd} {k ix off : Nat} : ldH hs (.eptr h k ix off) = (h ∈ hs) := (rfl)
theorem lh_s {hs : List Hd} {h : Hd} {k off len : Nat} : ldH hs (.sl h k off len) = (h ∈ hs) := (rfl)
def ldK (hs : List Hd) (op : ROp) (ev : Operand → AV) : Bool → Prop
 | false => True
 | true => ldOk hs op ev
theorem lo_N {hs : List Hd} {op : ROp} {ev : Operand → AV} : ldOk hs op ev = ldK hs op ev (isS op) := by
 cases op <;> rfl
theorem ldK_f {hs : List Hd} {op : ROp} {ev : Operand → AV} : ldK hs op ev false = True := (rfl)
theorem ldK_t {hs : List Hd} {ag : Option Nat} {x : Operand} : ldK hs (.loadS ag x) s.ev true = ldH hs (s.ev x) := lo_S (op := .loadS ag x) rfl
theorem ldK_fa {hs : List Hd} {off : Nat} {x : Operand} : ldK hs (.faddrS off x) s.ev true = ldH hs (s.ev x) := lo_S (op := .faddrS off x) rfl
theorem ldK_s {hs : List Hd} {m : Nat} {x : Operand} {lo hi : Option Operand} : ldK hs (.slsA m x lo hi) s.ev true = ldH hs (s.ev x) := lo_S (op := .slsA m x lo hi) rfl
theorem ldK_a {hs : List Hd} {m : Nat} {x : Operand} : ldK hs (.arrP m x) s.ev true = ldH hs (s.ev x) := lo_S (op := .arrP m x) rfl
theorem regS_of {ros : List RO} (ld : Bool) (hs : List Hd) (hl : hasLd ros = ld) (h : aopsS P ld hs ros s (Q .normal)) : acode P Y (.regS ros) Q s := ⟨hs, hl ▸ h⟩
def kLdS (K : AV → Prop) (lk : Look) (ag : Option Nat) : AV → Prop
 | .ptr h off => aload lk ag K (.ptr h off)
 | .eptr h k ix off => aload lk ag K (.eptr h k ix off)
 | _ => False
theorem c_seq {a b : RCode} : acode P Y (.seq a b) Q s = acode P Y a (exSeq (acode P Y b Q) Q) s := (rfl)
theorem c_cond {c : Operand} {a b : RCode} : acode P Y (.cond c a b) Q s = cnd P s Y a b Q (s.ev c) := (rfl)
theorem c_block {id : Nat} {b : RCode} : acode P Y (.block id b) Q s = acode P Y b (exBlock id Q) s := (rfl)
theorem c_exit {id : Nat} : acode P Y (.exit id) Q s = Q (.exit id) s := (rfl)
theorem c_scope {b : RCode} : acode P Y (.scope b) Q s = acode P Y b (exScope Q) s := (rfl)
theorem c_ret : acode P Y .ret Q s = Q .ret s := (rfl)
theorem x_seqN {next : AState → Prop} : exSeq next Q .normal s = next s := (rfl)
theorem x_seqE {next : AState → Prop} {i : Nat} : exSeq next Q (.exit i) s = Q (.exit i) s := (rfl)
theorem x_seqR {next : AState → Prop} : exSeq next Q .ret s = Q .ret s := (rfl)
theorem x_blkN {id : Nat} : exBlock id Q .normal s = Q .normal s := (rfl)
theorem x_blkR {id : Nat} : exBlock id Q .ret s = Q .ret s := (rfl)
theorem x_blkE {id i : Nat} : exBlock id Q (.exit i) s = if i = id then Q .normal s else Q (.exit i) s := (rfl)
theorem x_scN : exScope Q .normal s = Q .normal s := (rfl)
theorem x_scR : exScope Q .ret s = Q .ret s := (rfl)
theorem x_scE {i : Nat} : exScope Q (.exit i) s = Q (.exit i) s := (rfl)
theorem cd_T {a b : RCode} : cnd P s Y a b Q (.D (.B true)) = acode P Y a Q s := by simp [cnd, acond]
theorem cd_F {a b : RCode} : cnd P s Y a b Q (.D (.B false)) = acode P Y b Q s := by simp [cnd, acond]
theorem o_nil : aops P [] s K = K s := (rfl)
theorem o_cons {op : ROp} : aops P (⟨d, op, none⟩ :: r) s K = st P s d r K op := (rfl)
theorem o_guard {op : ROp} {t : Nat} {want : Bool} : aops P (⟨d, op, some (t, want)⟩ :: r) s K = gd P s d r K want op (s.env t) := by
 unfold gd; rfl
theorem g_T {op : ROp} {want : Bool} : gd P s d r K want op (.D (.B want)) = st P s d r K op := by simp [gd]
theorem g_TF {op : ROp} : gd P s d r K true op (.D (.B false)) = aops P r (s.put d .un [] []) K := by simp [gd]
theorem g_FT {op : ROp} : gd P s d r K false op (.D (.B true)) = aops P r (s.put d .un [] []) K := by simp [gd]
theorem g_un {op : ROp} {want : Bool} : gd P s d r K want op .un = aops P r (s.put d .un [] []) K := (rfl)
theorem s_put {dst : Option Nat} {a : AV} {nbs : List Blk} {fz : List Hd} : AState.put ⟨env, bs, own, nx⟩ dst a nbs fz = ⟨setDst env dst a, frzB bs fz, addBlks (frzO own fz) nx nbs, nx + nbs.length⟩ := (rfl)
theorem s_env : AState.env ⟨env, bs, own, nx⟩ = env := (rfl)
theorem s_tmp {t : Nat} : AState.ev ⟨env, bs, own, nx⟩ (.tmp t) = env t := (rfl)
theorem s_cI {k : IntKind} {n : Int} : AState.ev s (.const (.int k n)) = .D (.I k n) := (rfl)
theorem s_cB {b : Bool} : AState.ev s (.const (.bool b)) = .D (.B b) := (rfl)
theorem s_cS {t : Array UInt8} : AState.ev s (.const (.string ⟨t⟩)) = .D (.S t.toList) := (rfl)
theorem s_cN : AState.ev s (.const (.slice none 0 0)) = .fl [] := (rfl)
theorem s_fn {f : Nat} : AState.ev s (.func f) = .clo f [] := (rfl)
theorem s_lkO {i : Nat} : AState.lk ⟨env, bs, own, nx⟩ (.O i) = own i := (rfl)
theorem s_lkB {i : Nat} : AState.lk ⟨env, bs, own, nx⟩ (.B i) = bs i := (rfl)
theorem s_nx : AState.nx ⟨env, bs, own, nx⟩ = nx := (rfl)
theorem s_bs : AState.bs ⟨env, bs, own, nx⟩ = bs := (rfl)
theorem s_own : AState.own ⟨env, bs, own, nx⟩ = own := (rfl)
theorem s_setO {i : Nat} {b : Option Blk} : AState.setBlk ⟨env, bs, own, nx⟩ (.O i) b = ⟨env, bs, upd own i b, nx⟩ := (rfl)
theorem s_setB {i : Nat} {b : Option Blk} : AState.setBlk ⟨env, bs, own, nx⟩ (.B i) b = ⟨env, upd bs i b, own, nx⟩ := (rfl)
theorem d_some {d : Nat} {a : AV} : setDst env (some d) a = upd env d a := (rfl)
theorem d_none {a : AV} : setDst env none a = env := (rfl)
theorem f_B : frzB bs [] = bs := (rfl)
theorem f_O : frzO own [] = own := (rfl)
theorem f_Bc {x : Hd} {fz : List Hd} {i : Nat} : frzB bs (x :: fz) i = if Hd.B i ∈ x :: fz then (bs i).map Blk.frz else bs i := (rfl)
theorem f_Oc {x : Hd} {fz : List Hd} {i : Nat} : frzO own (x :: fz) i = if Hd.O i ∈ x :: fz then (own i).map Blk.frz else own i := (rfl)
theorem a_nil {n : Nat} : addBlks own n [] = own := (rfl)
theorem a_cons {n : Nat} {b : Blk} {l : List Blk} : addBlks own n (b :: l) = addBlks (upd own n (some b)) (n + 1) l := (rfl)
theorem u_get {α : Type} {f : Nat → α} {i j : Nat} {v : α} : upd f i v j = if j = i then v else f j := (rfl)


theorem ks_ : ks P r K s = aops P r s K := (rfl)
theorem kv_ {a : AV} : kv P s d r K a = aops P r (s.put d a [] []) K := (rfl)

theorem p_mv {x : Operand} : st P s d r K (.mv x) = aops P r (s.put d (s.ev x) [] []) K := (rfl)
theorem p_pick {c a b : Operand} : st P s d r K (.pick c a b) = kPick P s d r K (s.ev a) (s.ev b) (s.ev c) := by
 refine propext ⟨?_, fun h => ?_⟩
 ·rintro ⟨x, e, h⟩; rw [e]; exact h
 ·generalize hc : s.ev c = v at h
  cases v with
  | D x => cases x with
   | B x => exact ⟨x, hc, h⟩
   | _ => exact False.elim h
  | _ => exact False.elim h
theorem k_pT {va vb : AV} : kPick P s d r K va vb (.D (.B true)) = aops P r (s.put d va [] []) K := (rfl)
theorem k_pF {va vb : AV} : kPick P s d r K va vb (.D (.B false)) = aops P r (s.put d vb [] []) K := (rfl)
theorem p_new {zs : List AV} : st P s d r K (.new zs) = aops P r (s.put d (.ptr (.O s.nx) 0) [.box zs] []) K := (rfl)
theorem p_newR {zs : List AV} : st P s d r K (.newR zs) = kNwR P s d r K (AV.data zs) := by
 refine propext ⟨?_, fun h => ?_⟩
 ·rintro ⟨ds, h1, h2⟩; rw [h1]; exact h2
 ·generalize hd : AV.data zs = v at h
  cases v with
  | none => exact False.elim h
  | some ds => exact ⟨ds, hd, h⟩
theorem p_boxR {x : Operand} : st P s d r K (.boxR x) = kNwR P s d r K ((s.ev x).cells?.bind AV.data) := by
 refine propext ⟨?_, fun h => ?_⟩
 ·rintro ⟨cs, ds, h1, h2, h3⟩; rw [h1]; show kNwR P s d r K (AV.data cs); rw [h2]; exact h3
 ·generalize hc : (s.ev x).cells? = v at h
  cases v with
  | none => exact False.elim h
  | some cs =>
   have h : kNwR P s d r K (AV.data cs) := h
   generalize hd : AV.data cs = v at h
   cases v with
   | none => exact False.elim h
   | some ds => exact ⟨cs, ds, hc, hd, h⟩
theorem nwR_s {ds : List DV} : kNwR P s d r K (some ds) = aops P r (s.put d (.eptr (.O s.nx) 1 0 0) [.row true 1 (ds.map fun d => [d])] []) K := (rfl)
theorem p_box {x : Operand} : st P s d r K (.box x) = kBox P s d r K (s.ev x).cells? := by
 show (∃ cs, _ = some cs ∧ _) = _
 unfold kBox
 cases (s.ev x).cells? <;> simp [ks]
theorem k_box {cs : List AV} : kBox P s d r K (some cs) = aops P r (s.put d (.ptr (.O s.nx) 0) [.box cs] []) K := (rfl)
theorem p_build {zs : List AV} {ps : List (Nat × Nat × Operand)} : st P s d r K (.build zs ps) = ab P s d r K zs ps [] := (rfl)
theorem ab_nil {zs : List AV} {acc : List (Nat × List AV)} : ab P s d r K zs [] acc = aops P r (s.put d (.agg (afill zs acc.reverse)) [] []) K := (rfl)
theorem ab_cons {zs : List AV} {o sz : Nat} {x : Operand} {ps : List (Nat × Nat × Operand)} {acc : List (Nat × List AV)} : ab P s d r K zs ((o, sz, x) :: ps) acc = kAb P s d r K zs o sz ps acc (s.ev x).cells? := by
 show (∃ cs, _ = some cs ∧ _) = _
 unfold kAb
 cases (s.ev x).cells? <;> simp [ab]
theorem k_ab {zs : List AV} {o sz : Nat} {ps : List (Nat × Nat × Operand)} {acc : List (Nat × List AV)} {cs : List AV} : kAb P s d r K zs o sz ps acc (some cs) = (cs.length = sz ∧ o + sz ≤ zs.length ∧ ab P s d r K zs ps ((o, cs) :: acc)) := (rfl)
theorem p_bslice0 {k : Nat} : st P s d r K (.bslice k []) = aops P r (s.put d (.fl []) [] []) K := by simp [st, sstep, pstep, ks]
theorem p_bslice {k : Nat} {p : Operand} {ps : List Operand} : st P s d r K (.bslice k (p :: ps)) = kBs P s d r K k (p :: ps).length (fzL s.lk (adataRows s.ev (p :: ps))) (adataL s.lk s.ev k (p :: ps)) := by
 show (if (p :: ps) = [] then ks P r K (s.put d (.fl []) [] []) else ∃ es, adataL s.lk s.ev k (p :: ps) = some es ∧ ks P r K (s.put d (.sl (.O s.nx) k 0 (p :: ps).length) [.row true k es] (fzL s.lk (adataRows s.ev (p :: ps))))) = _
 rw [if_neg (by simp)]
 unfold kBs
 generalize adataL s.lk s.ev k (p :: ps) = v
 cases v <;> simp [ks]
theorem k_bs {k n : Nat} {hs : List Hd} {es : List (List DV)} : kBs P s d r K k n hs (some es) = aops P r (s.put d (.sl (.O s.nx) k 0 n) [.row true k es] hs) K := (rfl)
theorem p_load {ag : Option Nat} {x : Operand} : st P s d r K (.load ag x) = aload s.lk ag (kv P s d r K) (s.ev x) := (rfl)
theorem ld_p0 {lk : Look} {K : AV → Prop} {h : Hd} {off : Nat} : aload lk none K (.ptr h off) = kLd0 K off (lk h) := by
 unfold aload kLd0
 simp only
 cases lk h with
 | none => simp
 | some b => cases b with
  | box cs => simp only [Option.some.injEq, Blk.box.injEq, exists_eq_left']; unfold mA; cases cs[off]? <;> simp
  | row mt k es => simp
theorem ld_p1 {lk : Look} {K : AV → Prop} {h : Hd} {off n : Nat} : aload lk (some n) K (.ptr h off) = kLd1 K off n (lk h) := by
 unfold aload kLd1
 simp only
 cases lk h with
 | none => simp
 | some b => cases b with
  | box cs => simp only [Option.some.injEq, Blk.box.injEq, exists_eq_left']
  | row mt k es => simp
theorem ld_e0 {lk : Look} {K : AV → Prop} {h : Hd} {k ix off : Nat} : aload lk none K (.eptr h k ix off) = kLe0 K k ix off (lk h) := by
 unfold aload kLe0
 simp only
 cases lk h with
 | none => simp
 | some b => cases b with
  | box cs => simp
  | row mt k' es =>
   simp only [Option.some.injEq, Blk.row.injEq]
   refine propext ⟨fun ⟨mt', es', e, ⟨_, h2, h3⟩, h4, h5⟩ => ?_, fun ⟨h2, h⟩ => ?_⟩
   ·subst h2; subst h3
    refine ⟨rfl, ?_⟩
    rw [h4]
    obtain ⟨x, h6, h7⟩ := h5
    show mD K e[off]?
    rw [h6]; exact h7
   ·subst h2
    cases he : es[ix]? with
    | none => rw [he] at h; exact h.elim
    | some e =>
     rw [he] at h
     have h : mD K e[off]? := h
     refine ⟨mt, es, e, ⟨rfl, rfl, rfl⟩, he, ?_⟩
     cases hx : e[off]? with
     | none => rw [hx] at h; exact False.elim h
     | some x => rw [hx] at h; exact ⟨x, rfl, h⟩
theorem ld_e1 {lk : Look} {K : AV → Prop} {h : Hd} {k ix off n : Nat} : aload lk (some n) K (.eptr h k ix off) = kLe1 K k ix off n (lk h) := by
 unfold aload kLe1
 simp only
 cases lk h with
 | none => simp
 | some b => cases b with
  | box cs => simp
  | row mt k' es =>
   simp only [Option.some.injEq, Blk.row.injEq]
   refine propext ⟨fun ⟨mt', es', e, ⟨_, h2, h3⟩, h4, h5⟩ => ?_, fun ⟨h2, h⟩ => ?_⟩
   ·subst h2; subst h3
    refine ⟨rfl, ?_⟩
    by_cases e1 : k' = 1
    ·subst e1
     rw [if_pos rfl] at h5
     exact ⟨h5.1, (List.getElem?_eq_some_iff.1 h4).1, h5.2.1, h5.2.2⟩
    ·rw [if_neg e1] at h5
     rw [show (k' == 1) = false by simpa using e1]
     show kEl1 K off n es[ix]?
     rw [h4]; exact h5
   ·subst h2
    by_cases e1 : k' = 1
    ·subst e1
     obtain ⟨g1, g2, g3, g4⟩ := h
     exact ⟨mt, es, es[ix], ⟨rfl, rfl, rfl⟩, List.getElem?_eq_getElem g2, by rw [if_pos rfl]; exact ⟨g1, g3, g4⟩⟩
    ·rw [show (k' == 1) = false by simpa using e1] at h
     have h : kEl1 K off n es[ix]? := h
     cases he : es[ix]? with
     | none => rw [he] at h; exact h.elim
     | some e => rw [he] at h; exact ⟨mt, es, e, ⟨rfl, rfl, rfl⟩, he, by rw [if_neg e1]; exact h⟩
theorem ld_r0 {lk : Look} {K : AV → Prop} {ds : List DV} : aload lk none K (.rop ds) = mD K ds[0]? := by
 unfold aload mD
 simp only
 cases ds[0]? <;> simp
theorem ld_r1 {lk : Look} {K : AV → Prop} {ds : List DV} {n : Nat} : aload lk (some n) K (.rop ds) = (n ≤ ds.length ∧ K (.agg ((ds.take n).map .D))) := (rfl)
theorem mA_s {K : AV → Prop} {a : AV} : mA K (some a) = K a := (rfl)
theorem mD_s {K : AV → Prop} {a : DV} : mD K (some a) = K (.D a) := (rfl)
theorem mR_s {K : AV → Prop} {k : Nat} {e : List DV} : mR K k (some e) = (e.length = k ∧ K (.rop e)) := (rfl)
theorem mC_s {K : AV → Prop} {c : UInt8} : mC K (some c) = K (.D (.I .u8 c.toNat)) := (rfl)
theorem ld0_b {K : AV → Prop} {off : Nat} {cs : List AV} : kLd0 K off (some (.box cs)) = mA K cs[off]? := (rfl)
theorem ld1_b {K : AV → Prop} {off n : Nat} {cs : List AV} : kLd1 K off n (some (.box cs)) = (off + n ≤ cs.length ∧ K (.agg ((cs.drop off).take n))) := (rfl)
theorem le0_r {K : AV → Prop} {k ix off k' : Nat} {mt : Bool} {es : List (List DV)} : kLe0 K k ix off (some (.row mt k' es)) = (k' = k ∧ kEl0 K off es[ix]?) := (rfl)
theorem le1_r {K : AV → Prop} {k ix off n k' : Nat} {mt : Bool} {es : List (List DV)} : kLe1 K k ix off n (some (.row mt k' es)) = (k' = k ∧ kLe2 K ix off n es (k == 1)) := (rfl)
theorem le2_t {K : AV → Prop} {ix off n : Nat} {es : List (List DV)} : kLe2 K ix off n es true = (off = 0 ∧ ix < es.length ∧ ix + n ≤ es.length ∧ K (.agg ((((es.drop ix).take n).flatten).map .D))) := (rfl)
theorem le2_f {K : AV → Prop} {ix off n : Nat} {es : List (List DV)} : kLe2 K ix off n es false = kEl1 K off n es[ix]? := (rfl)
theorem el0_s {K : AV → Prop} {off : Nat} {e : List DV} : kEl0 K off (some e) = mD K e[off]? := (rfl)
theorem el1_s {K : AV → Prop} {off n : Nat} {e : List DV} : kEl1 K off n (some e) = (off + n ≤ e.length ∧ K (.agg (((e.drop off).take n).map .D))) := (rfl)

theorem p_loadS {ag : Option Nat} {x : Operand} : st P s d r K (.loadS ag x) = kLdS (kv P s d r K) s.lk ag (s.ev x) := by
 refine propext ⟨?_, fun h => ?_⟩
 ·rintro ⟨h1, h2⟩
  generalize hx : s.ev x = v at h1 h2
  cases v with
  | ptr h' off => exact h2
  | eptr h' k ix off => exact h2
  | sl h' k off len => exact h2
  | _ => cases h1
 ·show (s.ev x).hd?.isSome = true ∧ aload s.lk ag (kv P s d r K) (s.ev x)
  generalize hx : s.ev x = v at h
  cases v with
  | ptr h' off => exact ⟨rfl, h⟩
  | eptr h' k ix off => exact ⟨rfl, h⟩
  | _ => exact False.elim h
theorem ls_e {K : AV → Prop} {lk : Look} {ag : Option Nat} {h : Hd} {k ix off : Nat} : kLdS K lk ag (.eptr h k ix off) = aload lk ag K (.eptr h k ix off) := (rfl)
theorem ls_p {K : AV → Prop} {lk : Look} {ag : Option Nat} {h : Hd} {off : Nat} : kLdS K lk ag (.ptr h off) = aload lk ag K (.ptr h off) := (rfl)
theorem p_clr {k : Nat} {zs : List DV} {x : Operand} : st P s d r K (.clr k zs x) = kClr P s d r K k zs (s.ev x) := by
 show aclear s k zs d (ks P r K) (s.ev x) = _
 generalize s.ev x = vx
 cases vx with
 | sl h k' off len =>
  show (k' = k ∧ ∃ es, s.lk h = some (.row true k es) ∧ _) = (k' = k ∧ kClr1 P s d r K k zs h off len (s.lk h))
  generalize s.lk h = vh
  cases vh with
  | none => simp [kClr1]
  | some b => cases b with
   | box cs => simp [kClr1]
   | row mt k2 es => cases mt with
    | false => simp [kClr1]
    | true => exact propext ⟨fun ⟨a, es1, e, b, c⟩ => by cases e; exact ⟨a, rfl, b, c⟩, fun ⟨a, e, b, c⟩ => ⟨a, es, by rw [e], b, c⟩⟩
 | _ => rfl
theorem clr_s {k k' : Nat} {zs : List DV} {h : Hd} {off len : Nat} : kClr P s d r K k zs (.sl h k' off len) = (k' = k ∧ kClr1 P s d r K k zs h off len (s.lk h)) := (rfl)
theorem clr_r {k k' : Nat} {zs : List DV} {h : Hd} {off len : Nat} {es : List (List DV)} : kClr1 P s d r K k zs h off len (some (.row true k' es)) = (k' = k ∧ off + len ≤ es.length ∧ aops P r ((s.setBlk h (some (.row true k (es.take off ++ List.replicate len zs ++ es.drop (off + len))))).put d .any [] []) K) := (rfl)
theorem p_cpy {k : Nat} {x y : Operand} : st P s d r K (.cpy k x y) = kCpy P s d r K k (AV.isS (s.ev y)) (AV.content s.lk (s.ev y)) (s.ev x) := by
 show acopy s k y d (ks P r K) (s.ev x) = _
 generalize s.ev x = vx
 cases vx with
 | sl h k' off len =>
  show (k' = k ∧ ∃ es ys, s.lk h = some (.row true k es) ∧ off + len ≤ es.length ∧ AV.content s.lk (s.ev y) = some ys ∧ _) = (k' = k ∧ kCpy1 P s d r K k (AV.isS (s.ev y)) h off len (AV.content s.lk (s.ev y)) (s.lk h))
  generalize s.lk h = vh
  generalize AV.content s.lk (s.ev y) = vy
  cases vh with
  | none => simp [kCpy1]
  | some b => cases b with
   | box cs => simp [kCpy1]
   | row mt k2 es => cases mt with
    | false => cases vy <;> simp [kCpy1]
    | true => cases vy with
     | none => simp [kCpy1]
     | some ys => exact propext ⟨fun ⟨a, es1, ys1, e, b, e2, c⟩ => by cases e; cases e2; exact ⟨a, rfl, b, c⟩, fun ⟨a, e, b, c⟩ => ⟨a, es, ys, by rw [e], b, rfl, c⟩⟩
 | slk h k' off len cap0 =>
  show (k' = k ∧ ∃ es ys, s.lk h = some (.row true k es) ∧ off + len ≤ es.length ∧ AV.content s.lk (s.ev y) = some ys ∧ _) = (k' = k ∧ kCpy1 P s d r K k (AV.isS (s.ev y)) h off len (AV.content s.lk (s.ev y)) (s.lk h))
  generalize s.lk h = vh
  generalize AV.content s.lk (s.ev y) = vy
  cases vh with
  | none => simp [kCpy1]
  | some b => cases b with
   | box cs => simp [kCpy1]
   | row mt k2 es => cases mt with
    | false => cases vy <;> simp [kCpy1]
    | true => cases vy with
     | none => simp [kCpy1]
     | some ys => exact propext ⟨fun ⟨a, es1, ys1, e, b, e2, c⟩ => by cases e; cases e2; exact ⟨a, rfl, b, c⟩, fun ⟨a, e, b, c⟩ => ⟨a, es, ys, by rw [e], b, rfl, c⟩⟩
 | _ => rfl
theorem cpy_s {k k' : Nat} {iS : Bool} {ys : Option (List (List DV))} {h : Hd} {off len : Nat} : kCpy P s d r K k iS ys (.sl h k' off len) = (k' = k ∧ kCpy1 P s d r K k iS h off len ys (s.lk h)) := (rfl)
theorem cpy_k {k k' : Nat} {iS : Bool} {ys : Option (List (List DV))} {h : Hd} {off len cap : Nat} : kCpy P s d r K k iS ys (.slk h k' off len cap) = (k' = k ∧ kCpy1 P s d r K k iS h off len ys (s.lk h)) := (rfl)
theorem cpy_r {k k' : Nat} {iS : Bool} {h : Hd} {off len : Nat} {es ys : List (List DV)} : kCpy1 P s d r K k iS h off len (some ys) (some (.row true k' es)) = (k' = k ∧ off + len ≤ es.length ∧ Uni k ys ∧ oneL (ys.take (min ys.length len)) = true ∧
  aops P r ((s.setBlk h (some (.row true k (es.take off ++ ys.take (min ys.length len) ++ es.drop (off + min ys.length len))))).put d (.D (.I .i64 (min ys.length len : Nat))) [] []) K) := (rfl)
theorem p_mks {k bytes : Nat} {zs : List DV} {x y : Operand} : st P s d r K (.mks k bytes zs x y) = kMks P s d r K k bytes zs (s.ev x) (s.ev y) := by
 refine propext ⟨?_, fun h => ?_⟩
 ·rintro ⟨k1, k2, l, c, e1, e2, h⟩; rw [e1, e2]; exact h
 ·generalize hx : s.ev x = vx at h
  generalize hy : s.ev y = vy at h
  cases vx with
  | D u => cases u with
   | I k1 l => cases vy with
    | D u' => cases u' with
     | I k2 c => exact ⟨k1, k2, l, c, hx, hy, h⟩
     | _ => exact False.elim h
    | _ => exact False.elim h
   | _ => exact False.elim h
  | _ => exact False.elim h
theorem mks_I {k bytes : Nat} {zs : List DV} {k1 k2 : IntKind} {l c : Int} : kMks P s d r K k bytes zs (.D (.I k1 l)) (.D (.I k2 c)) = (0 ≤ l ∧ l ≤ c ∧ c ≤ 9223372036854775807 ∧ (bytes : Int) * c ≤ 281474976710656 ∧ aops P r (s.put d (.sl (.O s.nx) k 0 l.toNat) [.row true k (List.replicate l.toNat zs)] []) K) := (rfl)
theorem p_store {sz : Nat} {a x : Operand} : st P s d r K (.store sz a x) = astore s sz x (ks P r K) (s.ev a) := (rfl)
theorem so_p {sz off : Nat} {h : Hd} {x : Operand} {K : AState → Prop} : astore s sz x K (.ptr h off) = kSt (s := s) (K := K) sz off h (s.ev x).cells? (s.lk h) := by
 refine propext ⟨?_, fun hh => ?_⟩
 ·rintro ⟨cs, ys, h1, h2, h3⟩; rw [h1, h2]; exact h3
 ·generalize hc : (s.ev x).cells? = v at hh
  generalize hl : s.lk h = u at hh
  cases v with
  | none => exact False.elim hh
  | some ys => cases u with
   | none => exact False.elim hh
   | some b => cases b with
    | box cs => exact ⟨cs, ys, hl, hc, hh⟩
    | row _ _ _ => exact False.elim hh
theorem so_e {sz k ix off : Nat} {h : Hd} {x : Operand} {K : AState → Prop} : astore s sz x K (.eptr h k ix off) = kSe0 (s := s) (K := K) sz h k ix off ((s.ev x).cells?.bind AV.data) (s.lk h) := by
 refine propext ⟨?_, fun hh => ?_⟩
 ·rintro (⟨h0, es, e, ys, ds, h1, h2, h3, h4, h5⟩ | ⟨rfl, rfl, h0, es, ys, ds, h1, h3, h4, h5⟩)
  ·rw [h1, h3]
   show kSe0 sz h k ix off (AV.data ys) _
   rw [h4]
   refine ⟨rfl, ?_⟩
   rw [show (k == 1 && !(sz == 1)) = false by rcases h0 with h0 | h0 <;> simp [h0]]
   show kSe1 sz h k ix off es ds es[ix]?
   rw [h2]; exact h5
  ·rw [h1, h3]
   show kSe0 sz h 1 ix 0 (AV.data ys) _
   rw [h4]
   refine ⟨rfl, ?_⟩
   rw [show ((1 : Nat) == 1 && !(sz == 1)) = true by simp [h0]]
   exact ⟨rfl, h5.1, h5.2.1, h5.2.2⟩
 ·generalize hc : (s.ev x).cells? = v at hh
  generalize hl : s.lk h = u at hh
  cases v with
  | none => exact False.elim hh
  | some ys =>
   have hh : kSe0 sz h k ix off (AV.data ys) u := hh
   generalize hd : AV.data ys = v at hh
   cases v with
   | none => exact False.elim hh
   | some ds => cases u with
    | none => exact False.elim hh
    | some b => cases b with
     | box cs => exact False.elim hh
     | row mt k' es => cases mt with
      | false => exact False.elim hh
      | true =>
       obtain ⟨rfl, h2⟩ := hh
       by_cases e1 : k' = 1 ∧ sz ≠ 1
       ·obtain ⟨rfl, e1⟩ := e1
        rw [show ((1 : Nat) == 1 && !(sz == 1)) = true by simp [e1]] at h2
        obtain ⟨rfl, g2, g3, g4⟩ := h2
        exact .inr ⟨rfl, rfl, e1, es, ys, ds, hl, hc, hd, g2, g3, g4⟩
       ·have e2 : k' ≠ 1 ∨ sz = 1 := by
         by_cases q : k' = 1
         ·exact .inr (Classical.not_not.1 fun r => e1 ⟨q, r⟩)
         ·exact .inl q
        rw [show (k' == 1 && !(sz == 1)) = false by rcases e2 with e2 | e2 <;> simp [e2]] at h2
        have h2 : kSe1 sz h k' ix off es ds es[ix]? := h2
        generalize he : es[ix]? = v at h2
        cases v with
        | none => exact False.elim h2
        | some e => exact .inl ⟨e2, es, e, ys, ds, hl, he, hc, hd, h2⟩
theorem st_b {sz off : Nat} {h : Hd} {K : AState → Prop} {ys cs : List AV} : kSt (s := s) (K := K) sz off h (some ys) (some (.box cs)) = (ys.length = sz ∧ off + sz ≤ cs.length ∧ K (s.setBlk h (some (.box (cs.take off ++ ys ++ cs.drop (off + sz)))))) := (rfl)
theorem se_r {sz k k' ix off : Nat} {h : Hd} {K : AState → Prop} {ds : List DV} {es : List (List DV)} : kSe0 (s := s) (K := K) sz h k ix off (some ds) (some (.row true k' es)) = (k' = k ∧ kSe2 (s := s) (K := K) sz h k ix off es ds (k == 1 && !(sz == 1))) := (rfl)
theorem se2_t {sz k ix off : Nat} {h : Hd} {K : AState → Prop} {ds : List DV} {es : List (List DV)} : kSe2 (s := s) (K := K) sz h k ix off es ds true = (off = 0 ∧ ds.length = sz ∧ ix + sz ≤ es.length ∧ K (s.setBlk h (some (.row true 1 (es.take ix ++ (ds.map fun d => [d]) ++ es.drop (ix + sz)))))) := (rfl)
theorem se2_f {sz k ix off : Nat} {h : Hd} {K : AState → Prop} {ds : List DV} {es : List (List DV)} : kSe2 (s := s) (K := K) sz h k ix off es ds false = kSe1 (s := s) (K := K) sz h k ix off es ds es[ix]? := (rfl)
theorem se_s {sz k ix off : Nat} {h : Hd} {K : AState → Prop} {ds e : List DV} {es : List (List DV)} : kSe1 (s := s) (K := K) sz h k ix off es ds (some e) = (ds.length = sz ∧ off + sz ≤ e.length ∧ K (s.setBlk h (some (.row true k (es.set ix (e.take off ++ ds ++ e.drop (off + sz))))))) := (rfl)

theorem p_bin {op : BinOp} {x y : Operand} : st P s d r K (.bin op x y) = abin op (kv P s d r K) (s.ev x) (s.ev y) := (rfl)
theorem b_II {op : BinOp} {k : IntKind} {x y : Int} {K : AV → Prop} (h1 : op ≠ .shl) (h2 : op ≠ .shr) : abin op K (.D (.I k x)) (.D (.I k y)) = aint op k x y K := by
 cases op <;> first | exact absurd rfl h1 | exact absurd rfl h2 | simp [abin]
theorem b_SS {op : BinOp} {x y : List UInt8} {K : AV → Prop} : abin op K (.D (.S x)) (.D (.S y)) = astr op x y K := (rfl)
theorem p_eqs {neg : Bool} {kds : List Nat} {x y : Operand} : st P s d r K (.eqs neg kds x y) = kEq0 P s d r K neg kds (s.ev x) (s.ev y) := by
 refine propext ⟨?_, fun h => ?_⟩
 ·rintro ⟨xs, ys, b, e1, e2, e3, h⟩; rw [e1, e2]; show kEq1 P s d r K neg (sameCells kds xs ys); rw [e3]; exact h
 ·generalize hx : s.ev x = vx at h
  generalize hy : s.ev y = vy at h
  cases vx with
  | agg xs => cases vy with
   | agg ys =>
    have h : kEq1 P s d r K neg (sameCells kds xs ys) := h
    generalize he : sameCells kds xs ys = v at h
    cases v with
    | none => exact False.elim h
    | some b => exact ⟨xs, ys, b, hx, hy, he, h⟩
   | _ => exact False.elim h
  | _ => exact False.elim h
theorem eq0_a {neg : Bool} {kds : List Nat} {xs ys : List AV} : kEq0 P s d r K neg kds (.agg xs) (.agg ys) = kEq1 P s d r K neg (sameCells kds xs ys) := (rfl)
theorem eq1_s {neg b : Bool} : kEq1 P s d r K neg (some b) = aops P r (s.put d (.D (.B (if neg = true then !b else b))) [] []) K := (rfl)
theorem p_beq {neg : Bool} {x y : Operand} : st P s d r K (.beq neg x y) = kBeq P s d r K neg (s.ev x) (s.ev y) := by
 refine propext ⟨?_, fun h => ?_⟩
 ·rintro ⟨p, q, e1, e2, h⟩; rw [e1, e2]; exact h
 ·generalize hx : s.ev x = vx at h
  generalize hy : s.ev y = vy at h
  cases vx with
  | D u => cases u with
   | B p => cases vy with
    | D u' => cases u' with
     | B q => exact ⟨p, q, hx, hy, h⟩
     | _ => exact False.elim h
    | _ => exact False.elim h
   | _ => exact False.elim h
  | _ => exact False.elim h
theorem beq_B {neg p q : Bool} : kBeq P s d r K neg (.D (.B p)) (.D (.B q)) = aops P r (s.put d (.D (.B (if neg = true then !(p == q) else (p == q)))) [] []) K := (rfl)
theorem p_un {op : UnOp} {x : Operand} : st P s d r K (.un op x) = aun op (kv P s d r K) (s.ev x) := (rfl)
theorem un_B {K : AV → Prop} {x : Bool} : aun .not K (.D (.B x)) = K (.D (.B (!x))) := by simp [aun]
theorem un_I {K : AV → Prop} {k : IntKind} {x : Int} : aun .neg K (.D (.I k x)) = K (.D (.I k (k.wrap (-x)))) := (rfl)
theorem p_faddr {off : Nat} {x : Operand} : st P s d r K (.faddr off x) = (AV.live s.lk (s.ev x) = true ∧ afaddr (kv P s d r K) off (s.ev x)) := by
 unfold afaddr; rfl
def kFaS (K : AV → Prop) (lk : Look) (off : Nat) : AV → Prop
 | .ptr h o => (lk h).isSome = true ∧ K (.ptr h (o + off))
 | .eptr h k ix o => (lk h).isSome = true ∧ K (AV.eadd h k ix o off)
 | _ => False
theorem p_faddrS {off : Nat} {x : Operand} : st P s d r K (.faddrS off x) = kFaS (kv P s d r K) s.lk off (s.ev x) := by
 refine propext ⟨?_, fun h => ?_⟩
 ·rintro ⟨h1, h2, h3⟩
  generalize hx : s.ev x = v at h1 h2 h3
  cases v with
  | ptr h' o => exact ⟨h2, h3⟩
  | eptr h' k ix o => exact ⟨h2, h3⟩
  | sl h' k ix o => exact h3.elim
  | _ => cases h1
 ·show (s.ev x).hd?.isSome = true ∧ AV.live s.lk (s.ev x) = true ∧ _
  generalize hx : s.ev x = v at h
  cases v with
  | ptr h' o => exact ⟨rfl, h.1, h.2⟩
  | eptr h' k ix o => exact ⟨rfl, h.1, h.2⟩
  | _ => exact False.elim h
theorem faS_p {K : AV → Prop} {lk : Look} {off o : Nat} {h : Hd} : kFaS K lk off (.ptr h o) = ((lk h).isSome = true ∧ K (.ptr h (o + off))) := (rfl)
theorem faS_e {K : AV → Prop} {lk : Look} {off k ix o : Nat} {h : Hd} : kFaS K lk off (.eptr h k ix o) = ((lk h).isSome = true ∧ K (AV.eadd h k ix o off)) := (rfl)
theorem fa_p {K : AV → Prop} {off o : Nat} {h : Hd} : afaddr K off (.ptr h o) = K (.ptr h (o + off)) := (rfl)
theorem fa_e {K : AV → Prop} {off k ix o : Nat} {h : Hd} : afaddr K off (.eptr h k ix o) = K (AV.eadd h k ix o off) := (rfl)
theorem ea_1 {h : Hd} {ix o d : Nat} : AV.eadd h 1 ix o d = .eptr h 1 (ix + o + d) 0 := (rfl)
theorem ea_n {h : Hd} {k ix o d : Nat} (hk : k ≠ 1) : AV.eadd h k ix o d = .eptr h k ix (o + d) := if_neg hk
theorem fa_r {K : AV → Prop} {off : Nat} {ds : List DV} : afaddr K off (.rop ds) = K (.rop (ds.drop off)) := (rfl)
theorem p_field0 {off : Nat} {x : Operand} : st P s d r K (.field off none x) = kF0 (kv P s d r K) off (s.ev x) := by
 refine propext ⟨?_, fun h => ?_⟩
 ·rintro ⟨cs, e, a, h1, h2⟩; rw [e]; show mA _ cs[off]?; rw [h1]; exact h2
 ·generalize hx : s.ev x = vx at h
  cases vx with
  | agg cs =>
   have h : mA (kv P s d r K) cs[off]? := h
   generalize he : cs[off]? = v at h
   cases v with
   | none => exact False.elim h
   | some a => exact ⟨cs, hx, a, he, h⟩
  | _ => exact False.elim h
theorem p_field {off m : Nat} {x : Operand} : st P s d r K (.field off (some m) x) = kF1 (kv P s d r K) off m (s.ev x) := by
 refine propext ⟨?_, fun h => ?_⟩
 ·rintro ⟨cs, e, h⟩; rw [e]; exact h
 ·generalize hx : s.ev x = vx at h
  cases vx with
  | agg cs => exact ⟨cs, hx, h⟩
  | _ => exact False.elim h
theorem f0_a {K : AV → Prop} {off : Nat} {cs : List AV} : kF0 K off (.agg cs) = mA K cs[off]? := (rfl)
theorem f1_a {K : AV → Prop} {off m : Nat} {cs : List AV} : kF1 K off m (.agg cs) = (off + m ≤ cs.length ∧ K (.agg ((cs.drop off).take m))) := (rfl)
theorem p_ext {x : Operand} {i : Nat} : st P s d r K (.ext x i) = kExt (kv P s d r K) i (s.ev x) := by
 refine propext ⟨?_, fun h => ?_⟩
 ·rintro ⟨cs, a, e, h1, h2⟩; rw [e]; show mA _ cs[i]?; rw [h1]; exact h2
 ·generalize hx : s.ev x = vx at h
  cases vx with
  | tup cs =>
   have h : mA (kv P s d r K) cs[i]? := h
   generalize he : cs[i]? = v at h
   cases v with
   | none => exact False.elim h
   | some a => exact ⟨cs, a, hx, he, h⟩
  | _ => exact False.elim h
theorem ex_t {K : AV → Prop} {i : Nat} {cs : List AV} : kExt K i (.tup cs) = mA K cs[i]? := (rfl)
theorem p_len {str : Bool} {x : Operand} : st P s d r K (.len str x) = (AV.live s.lk (s.ev x) = true ∧ kLen P s d r K ((s.ev x).len? str)) := by
 show (AV.live s.lk (s.ev x) = true ∧ ∃ m, (s.ev x).len? str = some m ∧ _) = _
 unfold kLen
 cases (s.ev x).len? str <;> simp [ks]
theorem len_s {m : Nat} : kLen P s d r K (some m) = aops P r (s.put d (.D (.I .i64 m)) [] []) K := (rfl)
theorem p_isnil {neg : Bool} {x : Operand} : st P s d r K (.isnil neg x) = (AV.live s.lk (s.ev x) = true ∧ kNil P s d r K neg ((s.ev x).len? false)) := by
 show (AV.live s.lk (s.ev x) = true ∧ ∃ m, (s.ev x).len? false = some m ∧ _) = _
 unfold kNil
 cases (s.ev x).len? false <;> simp [ks]
theorem nil_0 {neg : Bool} : kNil P s d r K neg (some 0) = aops P r (s.put d .ab [] []) K := (rfl)
theorem nil_s {neg : Bool} {m : Nat} (h : m ≠ 0) : kNil P s d r K neg (some m) = aops P r (s.put d (.D (.B neg)) [] []) K := by simp [kNil, h]
theorem p_mm {isMax : Bool} {x y : Operand} : st P s d r K (.mm isMax x y) = kMm P s d r K isMax (s.ev x) (s.ev y) := by
 refine propext ⟨?_, fun h => ?_⟩
 ·rintro ⟨k, a, b, e1, e2, h⟩; rw [e1, e2]; exact ⟨rfl, h⟩
 ·generalize hx : s.ev x = vx at h
  generalize hy : s.ev y = vy at h
  cases vx with
  | D u => cases u with
   | I k a => cases vy with
    | D u' => cases u' with
     | I k' b => obtain ⟨rfl, h⟩ := h; exact ⟨_, a, b, hx, hy, h⟩
     | _ => exact False.elim h
    | _ => exact False.elim h
   | _ => exact False.elim h
  | _ => exact False.elim h
theorem mm_I {isMax : Bool} {k : IntKind} {a b : Int} : kMm P s d r K isMax (.D (.I k a)) (.D (.I k b)) = aops P r (s.put d (.D (.I k (if isMax = true then max a b else min a b))) [] []) K := by simp [kMm]
theorem p_mkf {f : Nat} {caps : List Operand} : st P s d r K (.mkf f caps) = aops P r (s.put d (.clo f (caps.map s.ev)) [] []) K := (rfl)
theorem p_cvI {k : IntKind} {x : Operand} : st P s d r K (.cvI k x) = kCvI P s d r K k (s.ev x) := by
 refine propext ⟨?_, fun h => ?_⟩
 ·rintro ⟨k', j, e, h⟩; rw [e]; exact h
 ·generalize hx : s.ev x = vx at h
  cases vx with
  | D u => cases u with
   | I k' j => exact ⟨k', j, hx, h⟩
   | _ => exact False.elim h
  | _ => exact False.elim h
theorem cv_I {k k' : IntKind} {j : Int} : kCvI P s d r K k (.D (.I k' j)) = aops P r (s.put d (.D (.I k (k.wrap j))) [] []) K := (rfl)
theorem p_cvS {x : Operand} : st P s d r K (.cvS x) = kCvS0 P s d r K (s.ev x) (AV.content s.lk (s.ev x)) := by
 refine propext ⟨?_, fun h => ?_⟩
 ·rintro ⟨ys, t, e, h1, h2, h3⟩; rw [e]; refine ⟨h2, ?_⟩; rw [h1]; exact h3
 ·generalize hx : AV.content s.lk (s.ev x) = v at h
  cases v with
  | none => exact False.elim h
  | some ys =>
   obtain ⟨h1, h2⟩ := h
   generalize hb : bytesOf ys = v at h2
   cases v with
   | none => exact False.elim h2
   | some t => exact ⟨ys, t, hx, hb, h1, h2⟩
theorem cvS_0 {v : AV} {ys : List (List DV)} : kCvS0 P s d r K v (some ys) = (AV.isS v = false ∧ kCvS1 P s d r K (bytesOf ys)) := (rfl)
theorem cvS_1 {t : List UInt8} : kCvS1 P s d r K (some t) = aops P r (s.put d (.D (.S t)) [] []) K := (rfl)
theorem p_app {k bytes : Nat} {x y : Operand} : st P s d r K (.app k bytes x y) = kApp0 P s d r K k bytes (fzL s.lk (AV.rows (s.ev y))) (s.ev x) (AV.content s.lk (s.ev y)) := by
 refine propext ⟨?_, fun h => ?_⟩
 ·rintro ⟨es, e1, ys, e2, h⟩; rw [e1, e2]; exact h
 ·generalize hx : s.ev x = vx at h
  generalize hy : AV.content s.lk (s.ev y) = vy at h
  cases vx with
  | fl es => cases vy with
   | some ys => exact ⟨es, hx, ys, hy, h⟩
   | none => exact False.elim h
  | _ => exact False.elim h
theorem app_0 {k bytes : Nat} {hs : List Hd} {es ys : List (List DV)} : kApp0 P s d r K k bytes hs (.fl es) (some ys) = (Uni k es ∧ Uni k ys ∧ (es.length + ys.length) * bytes ≤ 140737488355328 ∧ kApp1 P s d r K k es hs ys) := (rfl)
theorem app_n {k : Nat} {hs : List Hd} {e0 : List DV} {es : List (List DV)} : kApp1 P s d r K k (e0 :: es) hs [] = aops P r (s.put d (.fl (e0 :: es)) [] []) K := by simp [kApp1]
theorem app_z {k : Nat} {hs : List Hd} {ys : List (List DV)} : kApp1 P s d r K k [] hs ys = aops P r (s.put d (.sl (.O s.nx) k 0 ys.length) [.row true k ys] hs) K := by simp [kApp1]
theorem app_c {k : Nat} {hs : List Hd} {es ys : List (List DV)} (h : ys ≠ []) : kApp1 P s d r K k es hs ys = aops P r (s.put d (.sl (.O s.nx) k 0 (es.length + ys.length)) [.row true k (es ++ ys)] hs) K := by simp [kApp1, h]
theorem p_iaddr {k : Nat} {x i : Operand} : st P s d r K (.iaddr k x i) = (AV.live s.lk (s.ev x) = true ∧ kIa (kv P s d r K) k (s.ev x) (s.ev i)) := by
 refine propext ⟨?_, fun h => ?_⟩
 ·rintro ⟨h1, kd, j, h2, h3, h4⟩
  refine ⟨h1, ?_⟩
  rw [h2]
  generalize hx : s.ev x = vx at h4
  cases vx with
  | D u => cases u with
   | L es => obtain ⟨e, h5, h6⟩ := h4; refine ⟨h3, ?_⟩; rw [h5]; exact h6
   | _ => exact False.elim h4
  | fl es => obtain ⟨e, h5, h6⟩ := h4; refine ⟨h3, ?_⟩; rw [h5]; exact h6
  | sl hd k' off len => exact ⟨h3, h4⟩
  | _ => exact False.elim h4
 ·obtain ⟨h1, h⟩ := h
  refine ⟨h1, ?_⟩
  generalize hx : s.ev x = vx at h
  generalize hi : s.ev i = vi at h
  cases vi with
  | D u' => cases u' with
   | I kd j => 
    cases vx with
    | D u => cases u with
     | L es =>
      obtain ⟨h3, h⟩ := h
      generalize he : es[j.toNat]? = v at h
      cases v with
      | none => exact False.elim h
      | some e => exact ⟨kd, j, rfl, h3, ⟨e, he, h⟩⟩
     | _ => exact False.elim h
    | fl es =>
     obtain ⟨h3, h⟩ := h
     generalize he : es[j.toNat]? = v at h
     cases v with
     | none => exact False.elim h
     | some e => exact ⟨kd, j, rfl, h3, ⟨e, he, h⟩⟩
    | sl hd k' off len => exact ⟨kd, j, rfl, h.1, h.2⟩
    | _ => exact False.elim h
   | _ => cases vx with
    | D u => cases u <;> exact False.elim h
    | _ => exact False.elim h
  | _ => cases vx with
   | D u => cases u <;> exact False.elim h
   | _ => exact False.elim h
theorem ia_L {K : AV → Prop} {k : Nat} {es : List (List DV)} {kd : IntKind} {j : Int} : kIa K k (.D (.L es)) (.D (.I kd j)) = (0 ≤ j ∧ mR K k es[j.toNat]?) := (rfl)
theorem ia_f {K : AV → Prop} {k : Nat} {es : List (List DV)} {kd : IntKind} {j : Int} : kIa K k (.fl es) (.D (.I kd j)) = (0 ≤ j ∧ mR K k es[j.toNat]?) := (rfl)
theorem ia_s {K : AV → Prop} {k k' off len : Nat} {h : Hd} {kd : IntKind} {j : Int} : kIa K k (.sl h k' off len) (.D (.I kd j)) = (0 ≤ j ∧ k' = k ∧ j < len ∧ K (.eptr h k (off + j.toNat) 0)) := (rfl)

theorem optInt_iff {ev : Operand → AV} {x : Option Operand} {dflt : Nat} {K : Nat → Prop} : optInt ev x dflt K ↔ bOk (bd ev x) ∧ K (bN dflt (bd ev x)) := by
 cases x with
 | none => simp [optInt, bd, bOk, bN]
 | some x =>
  constructor
  ·rintro ⟨k, n, e, h1, h2⟩
   simp only [bd]
   rw [e]; exact ⟨h1, h2⟩
  ·rintro ⟨h1, h2⟩
   simp only [bd] at h1 h2
   show ∃ k n, ev x = .D (.I k n) ∧ _
   generalize hx : ev x = v at h1 h2
   cases v with
   | D u => cases u with
    | I k n => exact ⟨k, n, rfl, h1, h2⟩
    | _ => exact False.elim h1
   | _ => exact False.elim h1
theorem bd_n {ev : Operand → AV} : bd ev none = none := (rfl)
theorem bd_s {ev : Operand → AV} {x : Operand} : bd ev (some x) = some (ev x) := (rfl)
theorem bOk_n : bOk none = True := (rfl)
theorem bOk_s {k : IntKind} {n : Int} : bOk (some (.D (.I k n))) = (0 ≤ n) := (rfl)
theorem bN_n {dflt : Nat} : bN dflt none = dflt := (rfl)
theorem bN_s {dflt : Nat} {k : IntKind} {n : Int} : bN dflt (some (.D (.I k n))) = n.toNat := (rfl)
theorem p_sll {k : Nat} {x : Operand} {lo hi : Option Operand} : st P s d r K (.sll k x lo hi none) = (AV.live s.lk (s.ev x) = true ∧ kSll (kv P s d r K) k (bd s.ev lo) (bd s.ev hi) (s.ev x)) := by
 show (AV.live s.lk (s.ev x) = true ∧ aslice k s.ev lo hi none (kv P s d r K) (s.ev x)) = _
 congr 1
 generalize s.ev x = vx
 cases vx with
 | D u => cases u with
  | L es =>
   simp only [aslice, kSll, optInt_iff, bd_n, bOk_n, bN_n, true_and, Option.isSome_none, Bool.false_eq_true, false_implies, if_false]
   exact propext ⟨fun ⟨a, b, c, d, e, f⟩ => ⟨a, c, b, d, e, f⟩, fun ⟨a, b, c, d, e, f⟩ => ⟨a, c, b, d, e, f⟩⟩
  | _ => rfl
 | fl es =>
  simp only [aslice, kSll, optInt_iff, bd_n, bOk_n, bN_n, true_and, Option.isSome_none, Bool.false_eq_true, false_implies, Nat.le_refl]
  exact propext ⟨fun ⟨a, b, c, d, e, f⟩ => ⟨a, c, b, d, e, f⟩, fun ⟨a, b, c, d, e, f⟩ => ⟨a, c, b, d, e, f⟩⟩
 | sl hd k' off len =>
  simp only [aslice, kSll, optInt_iff, true_and]
  exact propext ⟨fun ⟨a, b, c, d, e, f⟩ => ⟨a, c, b, d, e, f⟩, fun ⟨a, b, c, d, e, f⟩ => ⟨a, c, b, d, e, f⟩⟩
 | slk hd k' off len cap =>
  simp only [aslice, kSll, optInt_iff, true_and]
  exact propext ⟨fun ⟨a, b, c, d, e, f⟩ => ⟨a, c, b, d, e, f⟩, fun ⟨a, b, c, d, e, f⟩ => ⟨a, c, b, d, e, f⟩⟩
 | _ => rfl
theorem sll_L {K : AV → Prop} {k : Nat} {lo hi : Option AV} {es : List (List DV)} : kSll K k lo hi (.D (.L es)) = (Uni k es ∧ bOk lo ∧ bOk hi ∧ bN 0 lo ≤ bN es.length hi ∧ bN es.length hi ≤ es.length ∧ K (.D (.L ((es.drop (bN 0 lo)).take (bN es.length hi - bN 0 lo))))) := (rfl)
theorem sll_f {K : AV → Prop} {k : Nat} {lo hi : Option AV} {es : List (List DV)} : kSll K k lo hi (.fl es) = (Uni k es ∧ bOk lo ∧ bOk hi ∧ bN 0 lo ≤ bN es.length hi ∧ bN es.length hi ≤ es.length ∧
   K (if bN es.length hi = es.length then .fl ((es.drop (bN 0 lo)).take (bN es.length hi - bN 0 lo)) else .D (.L ((es.drop (bN 0 lo)).take (bN es.length hi - bN 0 lo))))) := (rfl)
theorem sll_s {K : AV → Prop} {k k' off len : Nat} {h : Hd} {lo hi : Option AV} : kSll K k lo hi (.sl h k' off len) = (k' = k ∧ bOk lo ∧ bOk hi ∧ bN 0 lo ≤ bN len hi ∧ bN len hi ≤ len ∧ K (.sl h k (off + bN 0 lo) (bN len hi - bN 0 lo))) := (rfl)

theorem sll_k {K : AV → Prop} {k k' off len cap : Nat} {h : Hd} {lo hi : Option AV} : kSll K k lo hi (.slk h k' off len cap) = (k' = k ∧ bOk lo ∧ bOk hi ∧ bN 0 lo ≤ bN len hi ∧ bN len hi ≤ cap ∧ bN 0 lo < cap ∧ K (.slk h k (off + bN 0 lo) (bN len hi - bN 0 lo) (cap - bN 0 lo))) := (rfl)
theorem p_capK {x : Operand} : st P s d r K (.capK x) = (AV.live s.lk (s.ev x) = true ∧ kCap P s d r K (s.ev x)) := by
 refine propext ⟨?_, fun h => ?_⟩
 ·rintro ⟨h1, h, k, off, len, cap, e, h2⟩
  refine ⟨h1, ?_⟩
  rw [e]; exact h2
 ·obtain ⟨h1, h⟩ := h
  refine ⟨h1, ?_⟩
  generalize hx : s.ev x = v at h
  cases v with
  | slk h' k off len cap => exact ⟨h', k, off, len, cap, rfl, h⟩
  | _ => exact False.elim h
theorem cap_k {h : Hd} {k off len cap : Nat} : kCap P s d r K (.slk h k off len cap) = aops P r (s.put d (.D (.I .i64 cap)) [] []) K := (rfl)
theorem p_appZ {k bytes : Nat} {zs : List DV} {x y : Operand} : st P s d r K (.appZ k bytes zs x y) = (AV.live s.lk (s.ev x) = true ∧ kApZ0 P s d r K k bytes zs (s.ev x) (s.ev y)) := by
 refine propext ⟨?_, fun h => ?_⟩
 ·rintro ⟨h1, h, len, cap, kd, j, mt, es, e1, e2, h2, h3, h4⟩
  refine ⟨h1, ?_⟩
  rw [e1, e2]
  show kApZ1 P s d r K k k bytes zs 0 len cap j (s.lk h)
  rw [h3]
  exact ⟨rfl, rfl, rfl, h2, h4⟩
 ·obtain ⟨h1, h⟩ := h
  refine ⟨h1, ?_⟩
  generalize hx : s.ev x = v at h
  generalize hy : s.ev y = u at h
  cases v with
  | slk h' k' off len cap =>
   cases u with
   | D u => cases u with
    | I kd j =>
     have h : kApZ1 P s d r K k k' bytes zs off len cap j (s.lk h') := h
     generalize hl : s.lk h' = b at h
     cases b with
     | none => exact False.elim h
     | some b => cases b with
      | box _ => exact False.elim h
      | row mt k2 es =>
       obtain ⟨rfl, rfl, rfl, h2, h3⟩ := h
       exact ⟨h', len, cap, kd, j, mt, es, rfl, rfl, h2, hl, h3⟩
    | _ => exact False.elim h
   | _ => exact False.elim h
  | _ => cases u with
   | D u => cases u <;> exact False.elim h
   | _ => exact False.elim h
theorem apZ_0 {k k' bytes : Nat} {zs : List DV} {h : Hd} {off len cap : Nat} {kd : IntKind} {j : Int} : kApZ0 P s d r K k bytes zs (.slk h k' off len cap) (.D (.I kd j)) = kApZ1 P s d r K k k' bytes zs off len cap j (s.lk h) := (rfl)
theorem apZ_1 {k k' k2 bytes : Nat} {zs : List DV} {off len cap : Nat} {j : Int} {mt : Bool} {es : List (List DV)} : kApZ1 P s d r K k k' bytes zs off len cap j (some (.row mt k2 es)) = (k' = k ∧ off = 0 ∧ k2 = k ∧ 0 ≤ j ∧ len ≤ es.length ∧ Uni k es ∧ cap < len + j.toNat ∧ (len + j.toNat) * bytes ≤ 140737488355328 ∧
   aops P r (s.put d (.sl (.O s.nx) k 0 (len + j.toNat)) [.row true k (es.take len ++ List.replicate j.toNat zs)] []) K) := (rfl)

theorem p_appE {k bytes : Nat} {x y : Operand} : st P s d r K (.appE k bytes x y) = kApE P s d r K k bytes (fzL s.lk (AV.rows (s.ev y))) (AV.content s.lk (s.ev y)) (s.ev x) := by
  show aappend s k bytes y d (ks P r K) (s.ev x) = _
  generalize s.ev x = vx
  cases vx with
  | fl es0 => cases es0 with
   | nil =>
    show (d.isSome = true ∧ ∃ ys, AV.content s.lk (s.ev y) = some ys ∧ _) = kApN P s d r K k bytes (fzL s.lk (AV.rows (s.ev y))) (AV.content s.lk (s.ev y))
    generalize AV.content s.lk (s.ev y) = vy
    cases vy with
    | none => simp [kApN]
    | some ys => simp [kApN, ks]
   | cons e es1 =>
    generalize he : e :: es1 = es
    rw [← he]
    show (∃ ys, AV.content s.lk (s.ev y) = some ys ∧ _) = kApp0 P s d r K k bytes (fzL s.lk (AV.rows (s.ev y))) (.fl (e :: es1)) (AV.content s.lk (s.ev y))
    generalize AV.content s.lk (s.ev y) = vy
    cases vy with
    | none => simp [kApp0]
    | some ys => simp [kApp0, kApp1, ks]
  | sl h k' off len =>
    show (k' = k ∧ off = 0 ∧ ∃ es ys, s.lk h = some (.row true k es) ∧ len = es.length ∧ AV.content s.lk (s.ev y) = some ys ∧ _) = kApE0 P s d r K h k k' bytes off len (AV.content s.lk (s.ev y)) (s.lk h)
    generalize s.lk h = vh
    generalize AV.content s.lk (s.ev y) = vy
    refine propext ⟨?_, fun hh => ?_⟩
    · rintro ⟨h1, h2, es, ys, rfl, h3, rfl, h4⟩
      exact ⟨h1, h2, rfl, h3, h4⟩
    · cases vh with
      | none => exact False.elim hh
      | some b => cases b with
        | box _ => exact False.elim hh
        | row mt k2 es => cases mt with
          | false => exact False.elim hh
          | true =>
            obtain ⟨h1, h2, rfl, h4, h5⟩ := hh
            cases vy with
            | none => exact False.elim h5
            | some ys => exact ⟨h1, h2, es, ys, rfl, h4, rfl, h5⟩
  | _ => rfl
theorem apE_s {h : Hd} {k k' bytes off len : Nat} {hs : List Hd} {ys : Option (List (List DV))} : kApE P s d r K k bytes hs ys (.sl h k' off len) = kApE0 P s d r K h k k' bytes off len ys (s.lk h) := (rfl)
theorem apE_f {k bytes : Nat} {hs : List Hd} {ys : Option (List (List DV))} {e : List DV} {es : List (List DV)} : kApE P s d r K k bytes hs ys (.fl (e :: es)) = kApp0 P s d r K k bytes hs (.fl (e :: es)) ys := (rfl)
theorem apE_n {k bytes : Nat} {hs : List Hd} {ys : Option (List (List DV))} : kApE P s d r K k bytes hs ys (.fl []) = kApN P s d r K k bytes hs ys := (rfl)
theorem apN_s {k bytes : Nat} {hs : List Hd} {ys : List (List DV)} : kApN P s d r K k bytes hs (some ys) = (d.isSome = true ∧ Uni k ys ∧ ys.length * bytes ≤ 140737488355328 ∧ aops P r (s.put d (.sl (.O s.nx) k 0 ys.length) [.row true k ys] hs) K) := (rfl)
theorem apE_0 {h : Hd} {k k' k2 bytes off len : Nat} {ys : Option (List (List DV))} {es : List (List DV)} : kApE0 P s d r K h k k' bytes off len ys (some (.row true k2 es)) = (k' = k ∧ off = 0 ∧ k2 = k ∧ len = es.length ∧ kApE1 P s d r K h k bytes len es ys) := (rfl)
theorem apE_1 {h : Hd} {k bytes len : Nat} {es ys : List (List DV)} : kApE1 P s d r K h k bytes len es (some ys) = (Uni k es ∧ Uni k ys ∧ oneL ys = true ∧ (len + ys.length) * bytes ≤ 140737488355328 ∧ aops P r ((s.setBlk h none).put d (.sl (.O s.nx) k 0 (len + ys.length)) [.row true k (es ++ ys)] []) K) := (rfl)

theorem call_flat {fn : Nat} {f : Operand} {args : List Operand} {caps : List AV} {vals : List AV} {rr : AV} (hf : s.ev f = .clo fn caps) (hc : ACall P fn vals [] rr [] []) (ha : AV.convL s.lk (fun _ => none) (args.map s.ev ++ caps) = vals) (hr : AV.flat rr = true)
  (h : aops P r (s.put d rr [] []) K) : st P s d r K (.call f args) := by
 subst ha
 refine ⟨fn, caps, rr, [], hf, hc, ?_⟩
 rw [AV.flat_ren rr hr, if_pos ⟨hr, rfl⟩]
 exact h
theorem w_i64 {n : Int} (h : -9223372036854775808 ≤ n) (h' : n ≤ 9223372036854775807) : IntKind.wrap .i64 n = n := by
 rw [IntKind.wrap_i64]; omega

theorem AEndW.of {n : Nat} {rs : List RRes} {r x : AV} {bs' : List (Option Blk)} {nbs : List Blk} {e : Exit} {s : AState} (slots : List Nat) (he : e = .normal ∨ e = .ret) (hn : slots.Nodup) (h1 : aret s rs = some x) (h2 : AV.conv s.lk (phi slots) x = r)
  (h3 : ((List.range n).map fun i => (s.bs i).map (Blk.conv s.lk (phi slots))) = bs') (h4 : (slots.map fun j => (s.own j).map (Blk.conv s.lk (phi slots))) = nbs.map some) : AEndW n rs r bs' nbs e s :=
 ⟨s, Wk.refl s, he, slots, x, hn, h1, h2, h3, h4⟩
theorem AEndW.wk {n : Nat} {rs : List RRes} {r : AV} {bs' : List (Option Blk)} {nbs : List Blk} {e : Exit} {s s' : AState} (hw : Wk s s') (h : AEndW n rs r bs' nbs e s') : AEndW n rs r bs' nbs e s := let ⟨s2, h1, h2⟩ := h; ⟨s2, hw.trans h1, h2⟩
theorem e_ret {rs : List RRes} {r : AV} {e : Exit} {s : AState} (he : e = .normal ∨ e = .ret) (h : ∃ x, aret s rs = some x ∧ AV.conv s.lk (phi []) x = r) : AEndW 0 rs r [] [] e s := let ⟨_, h1, h2⟩ := h; .of [] he (by simp) h1 h2 rfl rfl
end

end Go.Eng

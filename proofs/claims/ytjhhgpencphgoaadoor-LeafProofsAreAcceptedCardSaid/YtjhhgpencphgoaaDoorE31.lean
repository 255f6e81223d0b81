import Derived.Test.YtjhhgpencphgoaaDoorE30
import Derived.Test.YtjhhgpencphgoaaDoorE20d
import Derived.Test.YtjhhgpencphgoaaDoorE26b
set_option linter.unusedSimpArgs false
set_option linter.unusedVariables false
namespace Go.Eng
theorem rn_eptr {ψ : Hd → Hd} {h : Hd} {k ix o : Nat} : AV.ren ψ (.eptr h k ix o) = .eptr (ψ h) k ix o := (rfl)
attribute [push_cast] rn_eptr
open Go.RowKit
section
variable {P : Program} {N n : Nat} {g : FuncId} {xs : List Operand} {ros : List RO} {rc : RCode} {rs : List RRes} {r : AV} {bs' : List (Option Blk)} {nbs : List Blk}
def kD2 (P : Program) (N n : Nat) (g : FuncId) (xs : List Operand) (rc : RCode) (rs : List RRes) (r : AV) (bs' : List (Option Blk)) (nbs : List Blk) : AState → Prop := fun s' => acode P bodyY rc (DEnd P N n g xs.length rs r bs' nbs) (dfrS N (xs.map s'.ev) s')
def kD1 (P : Program) (N n : Nat) (g : FuncId) (xs : List Operand) (ros : List RO) (rc : RCode) (rs : List RRes) (r : AV) (bs' : List (Option Blk)) (nbs : List Blk) : AState → Prop := fun s => aops P ros s (kD2 P N n g xs rc rs r bs' nbs)
theorem kD1_ {s : AState} : kD1 P N n g xs ros rc rs r bs' nbs s = aops P ros s (kD2 P N n g xs rc rs r bs' nbs) := (rfl)
theorem kD2_ {s : AState} : kD2 P N n g xs rc rs r bs' nbs s = acode P bodyY rc (DEnd P N n g xs.length rs r bs' nbs) (dfrS N (xs.map s.ev) s) := (rfl)
theorem pre_nil {K : AState → Prop} {Q : Exit → AState → Prop} {s : AState} : preRun P [] K Q s = K s := (rfl)
theorem pre_cons {K : AState → Prop} {Q : Exit → AState → Prop} {s : AState} {c : RCode} {cs : List RCode} : preRun P (c :: cs) K Q s = acode P bodyY c (exSeq (preRun P cs K Q) Q) s := (rfl)
theorem dfr_mk {env : Nat → AV} {bs own : Nat → Option Blk} {nx : Nat} {vs : List AV} : dfrS N vs ⟨env, bs, own, nx⟩ = ⟨dfrE N vs env, bs, own, nx⟩ := (rfl)
theorem dE_get {vs : List AV} {env : Nat → AV} {t : Nat} : dfrE N vs env t = if t < N then env t else if t = N then .any else vs.getD (t - N - 1) .any := (rfl)
theorem dV_0 {s : AState} : dfrV N s 0 = [] := (rfl)
theorem dV_s {s : AState} {k : Nat} : dfrV N s (k + 1) = dfrV N s k ++ [s.env (N + 1 + k)] := (rfl)
theorem DEnd.of {e : Exit} {s : AState} {k : Nat} {vals : List AV} {hbs : List (Option Blk)} {rr : AV} {bs2 : List (Option Blk)} {nbs2 : List Blk} (hs : List Hd) (he : e = .normal ∨ e = .ret) (hc : DCall P g vals hbs rr bs2 nbs2) (hnd : hs.Nodup) (hl : bs2.length = hs.length)
  (hok : hsOk s.nx hs = true) (h1 : AV.convL s.lk (phiH hs) (dfrV N s k) = vals) (h2 : handed s.lk hs = hbs) (h : AEndW n rs r bs' nbs .ret (afterE s hs (dfrV N s k) none rr bs2 nbs2)) : DEnd P N n g k rs r bs' nbs e s :=
 ⟨he, hs, rr, bs2, nbs2, hnd, hok, hl, by rw [h1, h2]; exact hc, h⟩
theorem ACall.of_bodyK (fl : List Nat) {f : FuncId} {fn : Func} {c : Code} {rcs : List RCode} {args : List AV} {bs : List (Option Blk)}
  (hf : P.funcs[f]? = some fn) (hb : fn.body = some c) (hname : (fn.name == "runtime.NumGoroutine") = false) (hm : P.follows .mixedOrders = true)
  (hrc : resolveD P fl fn.ntmps c = some (rcs, ros, g, xs, rc)) (hrs : resolveResN P fn.ntmps fn.results.toList = some rs) (hN : fn.ntmps = N)
  (hn : args.length ≤ fn.ntmps) (h : preRun P rcs (kD1 P N bs.length g xs ros rc rs r bs' nbs) (AEndW bs.length rs r bs' nbs) (entry args bs)) : ACall P f args bs r bs' nbs := by
 subst hN
 exact ACall.of_bodyR fl hf hb hname hm hrc hrs hn h
end
theorem _root_.Go.Eng.AEndW.of2 {n : Nat} {rs : List RRes} {r : AV} {bs' : List (Option Blk)} {nbs : List Blk} {e : Exit} {s : AState} (slots : List Nat) (he : e = .normal ∨ e = .ret) (hn : slots.Nodup) (h12 : ∃ x, aret s rs = some x ∧ AV.conv s.lk (phi slots) x = r)
  (h3 : ((List.range n).map fun i => (s.bs i).map (Blk.conv s.lk (phi slots))) = bs') (h4 : (slots.map fun j => (s.own j).map (Blk.conv s.lk (phi slots))) = nbs.map some) : AEndW n rs r bs' nbs e s :=
 let ⟨x, h1, h2⟩ := h12; ⟨s, Wk.refl s, he, slots, x, hn, h1, h2, h3, h4⟩
attribute [push_cast] kD1_ kD2_ pre_nil pre_cons dfr_mk dE_get dV_0 dV_s
end Go.Eng

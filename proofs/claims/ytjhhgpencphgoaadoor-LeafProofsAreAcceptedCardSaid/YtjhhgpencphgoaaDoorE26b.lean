import Derived.Test.YtjhhgpencphgoaaDoorE26
import Derived.Test.YtjhhgpencphgoaaDoorE20b
set_option linter.unusedSimpArgs false
set_option linter.unusedVariables false
namespace Go.Eng
open Go.RowKit

section
variable {P : Program} {Y : Yh} {s : AState} {d : Option Nat} {r : List RO} {K : AState → Prop} {Q : Exit → AState → Prop} {env : Nat → AV} {bs own : Nat → Option Blk} {nx N N2 l : Nat}

theorem sh_get {top low : Nat → AV} {g : AV} {t : Nat} : shE N top g low t = if t < N then top t else if t = N then g else low (t - N - 1) := (rfl)
theorem dn_get {t : Nat} : dnE N env t = env (N + 1 + t) := (rfl)
theorem ls_get {l : List AV} {t : Nat} : lstE l t = l.getD t .un := (rfl)
theorem ps_nil {xs : List AV} : setPs [] xs env = env := by unfold setPs; rfl
theorem ps_cons {p : Nat} {ps : List Nat} {x : AV} {xs : List AV} : setPs (p :: ps) (x :: xs) env = setPs ps xs (upd env p x) := (rfl)
theorem eI_mk {caps : List AV} : enterIt N2 l caps ⟨env, bs, own, nx⟩ = ⟨shE N2 (lstE (.yld l :: caps)) (.gst none) env, bs, own, nx⟩ := (rfl)
theorem lI_mk : leaveIt N N2 ⟨env, bs, own, nx⟩ = ⟨upd (dnE N2 env) N .any, bs, own, nx⟩ := (rfl)
theorem eB_mk {ps : List Nat} {xs : List AV} : enterBd N N2 ps xs ⟨env, bs, own, nx⟩ = ⟨shE N (setPs ps xs (dnE N2 env)) .any env, bs, own, nx⟩ := (rfl)
theorem lB_mk {c : Option Code} : leaveBd N N2 c ⟨env, bs, own, nx⟩ = ⟨upd (dnE N env) N2 (.gst c), bs, own, nx⟩ := (rfl)

theorem c_regY {ros : List RO} : acode P Y (.regY ros) Q s = aopsY P Y ros s (Q .normal) := (rfl)
def kY (P : Program) (Y : Yh) (r : List RO) (K : AState → Prop) : AState → Prop := fun s' => aopsY P Y r s' K
theorem kY_ : kY P Y r K s = aopsY P Y r s K := (rfl)
def kYc (P : Program) (Y : Yh) (r : List RO) (d : Option Nat) (K : AState → Prop) : Bool → AState → Prop := fun c s' => aopsY P Y r (s'.put d (.D (.B c)) [] []) K
theorem kYc_ {c : Bool} : kYc P Y r d K c s = aopsY P Y r (s.put d (.D (.B c)) [] []) K := (rfl)
theorem oY_nil : aopsY P Y [] s K = K s := (rfl)
def isCE : ROp → Bool
 | .callE _ _ => true
 | _ => false
theorem yst_no {ro : RO} (h : isCE ro.op = false) : yst s ro = none := by
 unfold yst
 split
 ·rename_i e; rw [e] at h; cases h
 ·rfl
def aopsYt (P : Program) (Y : Yh) (d : Option Nat) (op : ROp) (g : Option (Nat × Bool)) (r : List RO) (s : AState) (K : AState → Prop) : Prop := aopsY P Y (⟨d, op, g⟩ :: r) s K
def oYk (P : Program) (Y : Yh) (d : Option Nat) (op : ROp) (g : Option (Nat × Bool)) (r : List RO) (s : AState) (K : AState → Prop) : Bool → Prop
 | false => aops P [⟨d, op, g⟩] s (kY P Y r K)
 | true => aopsYt P Y d op g r s K
theorem oY_cons {op : ROp} {g : Option (Nat × Bool)} : aopsY P Y (⟨d, op, g⟩ :: r) s K = oYk P Y d op g r s K (isCE op) := by
 cases h : isCE op with
 | false => rw [aopsY, yst_no (ro := ⟨d, op, g⟩) h]; rfl
 | true => rfl
theorem oYk_f {op : ROp} {g : Option (Nat × Bool)} : oYk P Y d op g r s K false = aops P [⟨d, op, g⟩] s (kY P Y r K) := (rfl)
theorem oYk_t {op : ROp} {g : Option (Nat × Bool)} : oYk P Y d op g r s K true = aopsYt P Y d op g r s K := (rfl)
def yC (P : Program) (Y : Yh) (s : AState) (d : Option Nat) (r : List RO) (K : AState → Prop) (f : Operand) (args : List Operand) : AV → Prop
 | .yld l => Y.f l (args.map s.ev) s (kYc P Y r d K)
 | .clo _ _ => aops P [⟨d, .callE f args, none⟩] s (kY P Y r K)
 | _ => False
theorem oYe {f : Operand} {args : List Operand} : aopsYt P Y d (.callE f args) none r s K = yC P Y s d r K f args (s.ev f) := by
 unfold aopsYt
 generalize hv : s.ev f = v
 have key : yst s ⟨d, .callE f args, none⟩ = none → aopsY P Y (⟨d, .callE f args, none⟩ :: r) s K = acallE P s d (kY P Y r K) (args.map s.ev) v := fun h => by
  rw [aopsY, h, ← hv]; rfl
 cases v with
 | yld l =>
  have : yst s ⟨d, .callE f args, none⟩ = some (l, args.map s.ev) := by simp only [yst, hv]
  rw [aopsY, this]
  rfl
 | clo fn cs =>
  rw [key (by simp only [yst, hv]), yC, aops]
  show _ = acallE P s d (kY P Y r K) (args.map s.ev) (s.ev f)
  rw [hv]
 | _ => exact key (by simp only [yst, hv])
def yG (P : Program) (Y : Yh) (s : AState) (d : Option Nat) (r : List RO) (K : AState → Prop) (want : Bool) (args : List Operand) (l : Nat) : AV → Prop
 | .D (.B x) => (x = want → Y.f l (args.map s.ev) s (kYc P Y r d K)) ∧ (¬ x = want → aopsY P Y r (s.put d .un [] []) K)
 | .D (.C (.tuple _)) => aopsY P Y r (s.put d .un [] []) K
 | _ => False
theorem yC_y {f : Operand} {args : List Operand} : yC P Y s d r K f args (.yld l) = Y.f l (args.map s.ev) s (kYc P Y r d K) := (rfl)
theorem yC_c {f : Operand} {args : List Operand} {fn : Nat} {cs : List AV} : yC P Y s d r K f args (.clo fn cs) = aops P [⟨d, .callE f args, none⟩] s (kY P Y r K) := (rfl)
theorem yG_T {args : List Operand} {want : Bool} : yG P Y s d r K want args l (.D (.B want)) = Y.f l (args.map s.ev) s (kYc P Y r d K) := by simp [yG]
theorem yG_TF {args : List Operand} : yG P Y s d r K true args l (.D (.B false)) = aopsY P Y r (s.put d .un [] []) K := by simp [yG]
theorem yG_FT {args : List Operand} : yG P Y s d r K false args l (.D (.B true)) = aopsY P Y r (s.put d .un [] []) K := by simp [yG]
theorem yG_un {args : List Operand} {want : Bool} : yG P Y s d r K want args l .un = aopsY P Y r (s.put d .un [] []) K := (rfl)
def bdK (P : Program) (rcB : RCode) (N N2 : Nat) (K : Bool → AState → Prop) : AState → Prop := acode P bodyY rcB (bdQ N N2 K)
theorem bdK_ {rcB : RCode} {K : Bool → AState → Prop} : bdK P rcB N N2 K s = acode P bodyY rcB (bdQ N N2 K) s := (rfl)
theorem yf_ {rcA rcB : RCode} {ps : List Nat} {l' : Nat} {args : List AV} {K : Bool → AState → Prop} : (yIt P rcA rcB N N2 l ps).f l' args s K = (l' = l ∧ args.length = ps.length ∧ s.env N2 = .gst none ∧ acode P bodyY rcA (nrm (bdK P rcB N N2 K)) (enterBd N N2 ps args s)) := (rfl)
theorem nrm_n {k : AState → Prop} : nrm k .normal s = k s := (rfl)
theorem bdQ_n {K : Bool → AState → Prop} : bdQ N N2 K .normal s = K true (leaveBd N N2 none s) := (rfl)
theorem bdQ_e {K : Bool → AState → Prop} {id : Nat} : bdQ N N2 K (.exit id) s = K false (leaveBd N N2 (some (.exit id)) s) := (rfl)
theorem bdQ_r {K : Bool → AState → Prop} : bdQ N N2 K .ret s = K false (leaveBd N N2 (some .ret) s) := (rfl)
theorem itQ_n : itQ N N2 Q .normal s = itEnd Q (leaveIt N N2 s) (s.env N2) := by simp [itQ]
theorem itQ_r : itQ N N2 Q .ret s = itEnd Q (leaveIt N N2 s) (s.env N2) := by simp [itQ]
theorem itE_n : itEnd Q s (.gst none) = Q .normal s := (rfl)
theorem itE_e {id : Nat} : itEnd Q s (.gst (some (.exit id))) = Q (.exit id) s := (rfl)
theorem itE_r : itEnd Q s (.gst (some .ret)) = Q .ret s := (rfl)
theorem rw_yld : AV.rows (.yld l) = [] := (rfl)
theorem rw_gst {c : Option Code} : AV.rows (.gst c) = [] := (rfl)
theorem cv_yld {lk : Look} {φ : Hd → Option Hd} : AV.conv lk φ (.yld l) = .yld l := (rfl)
theorem cv_gst {lk : Look} {φ : Hd → Option Hd} {c : Option Code} : AV.conv lk φ (.gst c) = .gst c := (rfl)
end
attribute [push_cast] sh_get dn_get ls_get ps_nil ps_cons eI_mk lI_mk eB_mk lB_mk c_regY kY_ kYc_ oY_nil oY_cons oYk_f oYk_t oYe yC_y yC_c yG_T yG_TF yG_FT yG_un bdK_ yf_ nrm_n bdQ_n bdQ_e bdQ_r itQ_n itQ_r itE_n itE_e itE_r rw_yld rw_gst cv_yld cv_gst isCE
def AState.ownB (s : AState) (h : Hd) (cs : List AV) (i k : Nat) : AState := (s.put none .un [.row true k []] []).setBlk h (some (.box (cs.set i (.sl (.O s.nx) k 0 0))))
theorem RepL_set {G : Gh} {m : HM} : ∀ {cs : List AV} {vs : List Value} {i : Nat} {a : AV}, AV.RepL G m cs vs → (∀ v, vs[i]? = some v → AV.Rep G m a v) → AV.RepL G m (cs.set i a) vs
 | [], vs, i, a, h, _ => by simpa using h
 | c :: cs, vs, 0, a, h, ha => by
  unfold AV.RepL at h
  obtain ⟨v, vs', rfl, _, h2⟩ := h
  simp only [List.set_cons_zero]
  unfold AV.RepL
  exact ⟨v, vs', rfl, ha v rfl, h2⟩
 | c :: cs, vs, i + 1, a, h, ha => by
  unfold AV.RepL at h
  obtain ⟨v, vs', rfl, h1, h2⟩ := h
  simp only [List.set_cons_succ]
  unfold AV.RepL
  exact ⟨v, vs', rfl, h1, RepL_set h2 (fun u hu => ha u (by simpa using hu))⟩
theorem AState.ownB_ok (s : AState) (h : Hd) (cs : List AV) (i k : Nat) (hl : s.lk h = some (.box cs)) (hi : cs[i]? = some (.fl [])) : Wk s (s.ownB h cs i k) := fun E a w ⟨G, m, hA⟩ => by
 have hn : m (.O s.nx) = none := hA.fresh _ (Nat.le_refl _)
 have hle : HM.le m (hmSet m (.O s.nx) .none) := hmSet_le hn
 have hne : h ≠ .O s.nx := fun e => by
  have h0 : s.lk (.O s.nx) = none := hA.nxOk _ (Nat.le_refl _)
  rw [e, h0] at hl; cases hl
 have hS := hA.sim.nilRow hn none .un k
 have hlk1 : (s.put none .un [.row true k []] []).lk h = some (.box cs) := by
  rw [lk_put, lkF_nil]
  cases h with
  | B j => exact hl
  | O j =>
   show (if s.nx ≤ j ∧ j < s.nx + [Blk.row true k []].length then _ else s.lk (.O j)) = _
   rw [if_neg (fun hc => hne (by congr 1; simp at hc; omega))]
   exact hl
 have hlk : ∀ x, (s.ownB h cs i k).lk x = if x = h then some (.box (cs.set i (.sl (.O s.nx) k 0 0))) else (s.put none .un [.row true k []] []).lk x := fun x => lk_setBlk _ _ _ _
 refine ⟨G, hmSet m (.O s.nx) .none, ⟨fun x b sz hx => ?_, fun x hx => ?_, hS.inj, hS.gh, fun x hx => ?_, hS.gl⟩, fun u => ?_, hA.size, hA.defers, ?_, fun j hj => ?_, hA.frame, fun j => ?_, fun j b sz hj => ?_, trivial, fun j hj => ?_⟩
 ·obtain ⟨bl, h1, h2⟩ := hS.blk x b sz hx
  rw [hlk]
  by_cases e : x = h
  ·subst e
   rw [if_pos rfl]
   rw [hlk1] at h1
   cases h1
   obtain ⟨vs, T, q1, q2, q3, q4⟩ := h2
   refine ⟨_, rfl, vs, T, q1, q2, RepL_set q3 (fun v hv => ?_), q4⟩
   obtain ⟨v', hv', hr⟩ := AV.RepL_get q3 hi
   rw [hv] at hv'
   cases hv'
   unfold AV.Rep at hr
   obtain ⟨_, p, hp⟩ := hr
   subst hp
   unfold AV.Rep
   exact ⟨rfl, .none, by unfold hmSet; rw [if_pos rfl], fun _ => .inl ⟨p, rfl, rfl⟩⟩
  ·rw [if_neg e]; exact ⟨bl, h1, h2⟩
 ·obtain ⟨mt, k', h1⟩ := hS.nil x hx
  rw [hlk]
  by_cases e : x = h
  ·subst e; rw [hlk1] at h1; cases h1
  ·rw [if_neg e]; exact ⟨mt, k', h1⟩
 ·have h1 := hS.dead x hx
  rw [hlk]
  by_cases e : x = h
  ·subst e; rw [hlk1] at h1; cases h1
  ·rw [if_neg e]; exact h1
 ·have : (s.ownB h cs i k).env = s.env := by unfold AState.ownB; rw [setBlk_env]; rfl
  rw [this]
  exact AV.Rep.mono (Gh.le.refl G) hle _ _ (hA.env u)
 ·have : (s.ownB h cs i k).env = s.env := by unfold AState.ownB; rw [setBlk_env]; rfl
  rw [this]; exact hA.jok
 ·have hj' : s.nx + 1 ≤ j := by
   have : (s.ownB h cs i k).nx = s.nx + 1 := by unfold AState.ownB; rw [setBlk_nx]; rfl
   omega
  unfold hmSet
  rw [if_neg (fun e => by cases e; omega)]
  exact hA.fresh j (by omega)
 ·have : hmSet m (.O s.nx) .none (.B j) = m (.B j) := by unfold hmSet; rw [if_neg (fun e => by cases e)]
  rw [this]; exact hA.base j
 ·unfold hmSet at hj
  split at hj
  ·cases hj
  ·exact hA.own j b sz hj
 ·have h0 : ∀ j, (s.put none .un [.row true k []] []).nx ≤ j → (s.put none .un [.row true k []] []).own j = none := fun j hj => put_own hA.nxOk j hj
  exact setBlk_own h0 ⟨_, hlk1⟩ j (by unfold AState.ownB at hj; rw [setBlk_nx] at hj; exact hj)
theorem loop_ownB {P : Program} {Y : Yh} {b : RCode} {Q : Exit → AState → Prop} {s : AState} (h : Hd) (cs : List AV) (i k : Nat) (hl : s.lk h = some (.box cs)) (hi : cs[i]? = some (.fl [])) (hh : acode P Y (.loop b) Q (s.ownB h cs i k)) : acode P Y (.loop b) Q s :=
 hh.imp (fun ⟨I, n, s0, h1, h2, h3⟩ => ⟨I, n, s0, (s.ownB_ok h cs i k hl hi).trans h1, h2, h3⟩) fun ⟨n, s0, h1, h2⟩ => ⟨n, s0, (s.ownB_ok h cs i k hl hi).trans h1, h2⟩
theorem wkr_ownB {P : Program} {Y : Yh} {b : RCode} {Q : Exit → AState → Prop} {s : AState} (h : Hd) (cs : List AV) (i k : Nat) (hl : s.lk h = some (.box cs)) (hi : cs[i]? = some (.fl [])) (hh : acode P Y (.wkr b) Q (s.ownB h cs i k)) : acode P Y (.wkr b) Q s :=
 let ⟨s0, h1, h2⟩ := hh; ⟨s0, (s.ownB_ok h cs i k hl hi).trans h1, h2⟩
theorem wkr_of {P : Program} {Y : Yh} {b : RCode} {Q : Exit → AState → Prop} {s : AState} (h : acode P Y b Q s) : acode P Y (.wkr b) Q s := ⟨s, Wk.refl s, h⟩
theorem ownB_eq {s : AState} {h : Hd} {cs : List AV} {i k : Nat} : s.ownB h cs i k = (s.put none .un [.row true k []] []).setBlk h (some (.box (cs.set i (.sl (.O s.nx) k 0 0)))) := (rfl)
attribute [push_cast] ownB_eq

end Go.Eng

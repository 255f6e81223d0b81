import Derived.Test.YtjhhgpencphgoaaDoorE22
set_option linter.unusedSimpArgs false
set_option linter.unusedVariables false
namespace Go.Eng
open Go.RowKit

abbrev Str := List UInt8
def if? {α : Type} (c : Bool) (a b : Option α) : Option α := match c with
 | true => a
 | false => b
def ck {α : Type} (k : IntKind) (n : Int) (a : Option α) : Option α := if k.wrap n = n then a else none
def gd? {α : Type} (p : Prop) [Decidable p] (a : Option α) : Option α := if p then a else none
def get? {α β : Type} (xs : List α) (j : Int) (f : α → Option β) : Option β := if 0 ≤ j then match xs[j.toNat]? with
 | some x => f x
 | none => none else none
def bd? {α β : Type} (a : Option α) (f : α → Option β) : Option β := match a with
 | some x => f x
 | none => none

theorem F_if {α : Type} {c : Bool} {a b : Option α} {r : α} (h : if? c a b = some r) : (c = true ∧ a = some r) ∨ (c = false ∧ b = some r) := by
 cases c
 ·exact .inr ⟨rfl, h⟩
 ·exact .inl ⟨rfl, h⟩
theorem F_ck {α : Type} {k : IntKind} {n : Int} {a : Option α} {r : α} (h : ck k n a = some r) : k.wrap n = n ∧ a = some r := by
 unfold ck at h
 split at h
 ·exact ⟨‹_›, h⟩
 ·cases h
theorem F_gd {α : Type} {p : Prop} [Decidable p] {a : Option α} {r : α} (h : gd? p a = some r) : p ∧ a = some r := by
 unfold gd? at h
 split at h
 ·exact ⟨‹_›, h⟩
 ·cases h
theorem F_get {α β : Type} {xs : List α} {j : Int} {f : α → Option β} {r : β} (h : get? xs j f = some r) : ∃ x, 0 ≤ j ∧ xs[j.toNat]? = some x ∧ f x = some r := by
 unfold get? at h
 split at h
 ·split at h
  ·exact ⟨_, ‹_›, ‹_›, h⟩
  ·cases h
 ·cases h
theorem F_bd {α β : Type} {a : Option α} {f : α → Option β} {r : β} (h : bd? a f = some r) : ∃ x, a = some x ∧ f x = some r := by
 unfold bd? at h
 split at h
 ·exact ⟨_, rfl, h⟩
 ·cases h
theorem map_get {α : Type} (f : α → List DV) {xs : List α} {n : Nat} {x : α} (h : xs[n]? = some x) : (xs.map f)[n]? = some (f x) := by simp [h]
theorem map_lt {α : Type} {xs : List α} {n : Nat} {x : α} (h : xs[n]? = some x) : n < xs.length := (List.getElem?_eq_some_iff.1 h).1
theorem get_lt {α : Type} {xs : List α} {j : Int} {x : α} (h0 : 0 ≤ j) (h : xs[j.toNat]? = some x) : j < (xs.length : Int) := by have := map_lt h; omega

theorem uni_nil {k : Nat} : Uni k [] = True := by simp [Uni]
theorem uni_cons {k : Nat} {e : List DV} {es : List (List DV)} : Uni k (e :: es) = (e.length = k ∧ Uni k es) := by simp [Uni]
theorem uni_app {k : Nat} {a b : List (List DV)} : Uni k (a ++ b) = (Uni k a ∧ Uni k b) := by
 simp only [Uni, List.mem_append, eq_iff_iff]
 exact ⟨fun h => ⟨fun e he => h e (.inl he), fun e he => h e (.inr he)⟩, fun ⟨h1, h2⟩ e he => he.elim (h1 e) (h2 e)⟩
theorem uni_map {α : Type} {f : α → List DV} {k : Nat} (hf : ∀ x, (f x).length = k) {xs : List α} : Uni k (xs.map f) = True := by
 simp only [Uni, List.mem_map, eq_iff_iff, iff_true]
 rintro e ⟨x, _, rfl⟩; exact hf x
theorem one_nil : oneL [] = true := (rfl)
theorem one_cons {e : List DV} {es : List (List DV)} : oneL (e :: es) = (e.all DV.one && oneL es) := (rfl)
theorem one_app {a b : List (List DV)} : oneL (a ++ b) = (oneL a && oneL b) := by simp [oneL]
theorem one_map {α : Type} {f : α → List DV} (hf : ∀ x, (f x).all DV.one = true) {xs : List α} : oneL (xs.map f) = true := by
 simp only [oneL, List.all_eq_true, List.mem_map]
 rintro e ⟨x, _, rfl⟩; exact List.all_eq_true.1 (hf x)
theorem oneD_B {x : Bool} : DV.one (.B x) = true := (rfl)
theorem oneD_I {k : IntKind} {n : Int} : DV.one (.I k n) = true := (rfl)
theorem oneD_S {t : Str} : DV.one (.S t) = true := (rfl)
theorem oneD_L {es : List (List DV)} : DV.one (.L es) = true := (rfl)

theorem AState.own0_ok (s : AState) (t k : Nat) (h : s.env t = .fl []) : Wk s (s.own0 t k) := fun E a w ⟨G, m, hA⟩ => by
 have hn : m (.O s.nx) = none := hA.fresh _ (Nat.le_refl _)
 have hle : HM.le m (hmSet m (.O s.nx) .none) := fun x loc hx => by
  unfold hmSet
  by_cases e : x = .O s.nx
  ·rw [e, hn] at hx; cases hx
  ·rw [if_neg e]; exact .inl hx
 have hjok : E.J ((s.own0 t k).env E.N) w := by
  show E.J (upd s.env t (.sl (.O s.nx) k 0 0) E.N) w
  unfold upd
  by_cases e : E.N = t
  ·rw [if_pos e]; exact E.Jsl (.fl []) _ _ rfl (h ▸ e ▸ hA.jok)
  ·rw [if_neg e]; exact hA.jok
 refine ⟨G, hmSet m (.O s.nx) .none, hA.sim.nilRow hn _ _ k, fun u => ?_, hA.size, hA.defers, hjok, fun i hi => ?_, hA.frame, fun i => ?_, fun i b sz hi => ?_, hA.noO, fun i hi => put_own hA.nxOk i hi⟩
 ·show AV.Rep G _ (upd s.env t (.sl (.O s.nx) k 0 0) u) _
  unfold upd
  by_cases e : u = t
  ·rw [if_pos e]
   have := hA.env t
   rw [h] at this
   unfold AV.Rep at this
   obtain ⟨_, p, hp⟩ := this
   rw [e, hp]
   unfold AV.Rep
   exact ⟨rfl, .none, by unfold hmSet; rw [if_pos rfl], fun _ => .inl ⟨p, rfl, rfl⟩⟩
  ·rw [if_neg e]; exact AV.Rep.mono (Gh.le.refl G) hle _ _ (hA.env u)
 ·have hi' : s.nx + 1 ≤ i := hi
  unfold hmSet
  rw [if_neg (fun e => by cases e; omega)]
  exact hA.fresh i (by omega)
 ·have : hmSet m (.O s.nx) .none (.B i) = m (.B i) := by unfold hmSet; rw [if_neg (fun e => by cases e)]
  rw [this]; exact hA.base i
 ·unfold hmSet at hi
  split at hi
  ·cases hi
  ·exact hA.own i b sz hi
theorem loop_own0 {P : Program} {Y : Yh} {b : RCode} {Q : Exit → AState → Prop} {s : AState} (t k : Nat) (h : s.env t = .fl []) (hh : acode P Y (.loop b) Q (s.own0 t k)) : acode P Y (.loop b) Q s :=
 hh.imp (fun ⟨I, n, s0, h1, h2, h3⟩ => ⟨I, n, s0, (s.own0_ok t k h).trans h1, h2, h3⟩) fun ⟨n, s0, h1, h2⟩ => ⟨n, s0, (s.own0_ok t k h).trans h1, h2⟩
theorem end_own0 {n : Nat} {rs : List RRes} {r : AV} {bs' : List (Option Blk)} {nbs : List Blk} {e : Exit} {s : AState} (t k : Nat) (h : s.env t = .fl []) (hh : AEndW n rs r bs' nbs e (s.own0 t k)) : AEndW n rs r bs' nbs e s := .wk (s.own0_ok t k h) hh
theorem own0_eq {env : Nat → AV} {bs own : Nat → Option Blk} {nx t k : Nat} : AState.own0 ⟨env, bs, own, nx⟩ t k = ⟨upd env t (.sl (.O nx) k 0 0), bs, upd own nx (some (.row true k [])), nx + 1⟩ := (rfl)

theorem f_BO {bs : Nat → Option Blk} {j : Nat} {fz : List Hd} : frzB bs (.O j :: fz) = frzB bs fz := by
 funext i
 have h1 : (Hd.B i ∈ Hd.O j :: fz) ↔ Hd.B i ∈ fz := by simp
 cases fz with
 | nil => show (if Hd.B i ∈ [Hd.O j] then (bs i).map Blk.frz else bs i) = bs i; rw [if_neg (by simp)]
 | cons x r =>
  show (if Hd.B i ∈ Hd.O j :: x :: r then (bs i).map Blk.frz else bs i) = (if Hd.B i ∈ x :: r then (bs i).map Blk.frz else bs i)
  by_cases h : Hd.B i ∈ x :: r
  ·rw [if_pos h, if_pos (h1.2 h)]
  ·rw [if_neg h, if_neg (fun q => h (h1.1 q))]
theorem f_Bn {bs : Nat → Option Blk} : frzB bs [] = bs := (rfl)
section
variable {P : Program} {s : AState} {d : Option Nat} {r : List RO} {K : AState → Prop}
theorem call_new {fn : Nat} {f : Operand} {args : List Operand} {caps : List AV} {vals : List AV} {rr : AV} {nbs : List Blk} (hf : s.ev f = .clo fn caps) (hc : ACall P fn vals [] rr [] nbs) (ha : AV.convL s.lk (fun _ => none) (args.map s.ev ++ caps) = vals)
  (hr : (AV.flat rr && nbs.isEmpty) = false) (h : aops P r (s.put d (AV.ren (backHd [] s.nx) rr) (nbs.map (Blk.ren (backHd [] s.nx))) (fzL s.lk (AV.rowsL (args.map s.ev ++ caps)))) K) : st P s d r K (.call f args) := by
 subst ha
 refine ⟨fn, caps, rr, nbs, hf, hc, ?_⟩
 rw [if_neg (by rintro ⟨e1, rfl⟩; rw [e1] at hr; cases hr)]
 exact h
theorem fz_nil {lk : Look} : fzL lk [] = [] := (rfl)
theorem fz_cons {lk : Look} {h : Hd} {l : List Hd} : fzL lk (h :: l) = if (lk h).isSome = true then h :: fzL lk l else fzL lk l := by simp [fzL, List.filter_cons]
theorem bk_O {hs : List Hd} {n i : Nat} : backHd hs n (.O i) = .O (n + i) := (rfl)
theorem bk_B {hs : List Hd} {n i : Nat} : backHd hs n (.B i) = hs.getD i (.B i) := (rfl)
end

end Go.Eng

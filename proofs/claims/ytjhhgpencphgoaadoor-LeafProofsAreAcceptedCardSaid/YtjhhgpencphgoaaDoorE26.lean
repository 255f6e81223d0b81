import Derived.Test.YtjhhgpencphgoaaDoorE25
set_option linter.unusedSimpArgs false
set_option linter.unusedVariables false
namespace Go.Eng
open Go.RowKit

def mvPsi (mvs : List Nat) : Hd → Hd
 | .B j => match idxIn j mvs 0 with
  | some i => .O i
  | none => .B j
 | .O i => .O i
def entryM (args : List AV) (bs : List (Option Blk)) (mvs : List Nat) : AState :=
 {env := argL (AV.renL (mvPsi mvs) args), bs := fun j => if j ∈ mvs then none else ((bs[j]?).join).map (Blk.ren (mvPsi mvs)), own := fun i => (mvs[i]?).bind fun j => ((bs[j]?).join).map (Blk.ren (mvPsi mvs)), nx := mvs.length }

theorem idxIn_of {j : Nat} : ∀ {l : List Nat} {n i : Nat}, l.Nodup → l[i]? = some j → idxIn j l n = some (n + i)
 | [], _, _, _, q => by simp at q
 | x :: xs, n, 0, _, q => by
  simp only [List.getElem?_cons_zero, Option.some.injEq] at q
  unfold idxIn; rw [if_pos q]; rfl
 | x :: xs, n, i + 1, hn, q => by
  simp only [List.getElem?_cons_succ] at q
  unfold idxIn
  rw [if_neg (fun e : x = j => (List.nodup_cons.1 hn).1 (by rw [e]; exact List.mem_of_getElem? q)), idxIn_of (List.nodup_cons.1 hn).2 q]
  congr 1; omega

theorem ren_un (ψ : Hd → Hd) : AV.ren ψ .un = .un := rfl
theorem renL_get {ψ : Hd → Hd} : ∀ (l : List AV) (t : Nat), (AV.renL ψ l).getD t .un = AV.ren ψ (l.getD t .un)
 | [], t => by simp [AV.renL, ren_un]
 | a :: l, 0 => by simp [AV.renL]
 | a :: l, t + 1 => by
  have := renL_get (ψ := ψ) l t
  simpa [AV.renL] using this

theorem entryM_ok (args : List AV) (bs : List (Option Blk)) (mvs : List Nat) (hnd : mvs.Nodup) : Wk (entry args bs) (entryM args bs mvs) := fun E a w ⟨G, m, hA⟩ => by
 have hlk : ∀ j, (entry args bs).lk (.B j) = (bs[j]?).join := fun j => rfl
 have hO : ∀ i, m (.O i) = none := fun i => hA.fresh i (Nat.zero_le _)
 obtain ⟨m', hm'⟩ : ∃ m' : HM, m' = fun x => match x with
  | .O i => (mvs[i]?).bind fun j => m (.B j)
  | .B j => if j ∈ mvs then (m (.B j)).map fun _ => .dead else m (.B j) := ⟨_, rfl⟩
 have mB : ∀ j, j ∉ mvs → m' (.B j) = m (.B j) := fun j hj => by rw [hm']; exact if_neg hj
 have mBd : ∀ j, j ∈ mvs → m' (.B j) = (m (.B j)).map fun _ => .dead := fun j hj => by rw [hm']; exact if_pos hj
 have mO : ∀ i, m' (.O i) = (mvs[i]?).bind fun j => m (.B j) := fun i => by rw [hm']
 have hpsi : ∀ j, j ∉ mvs → mvPsi mvs (.B j) = .B j := fun j hj => by
  cases e : idxIn j mvs 0 with
  | none => simp only [mvPsi, e]
  | some i => obtain ⟨_, h⟩ := idxIn_spec e; exact absurd (List.mem_of_getElem? h) hj
 have hback : ∀ x loc, m x = some loc → m' (mvPsi mvs x) = some loc := fun x loc hx => by
  cases x with
  | O i => rw [hO i] at hx; cases hx
  | B j =>
   by_cases hj : j ∈ mvs
   ·obtain ⟨i, hi⟩ := List.getElem?_of_mem hj
    have : mvPsi mvs (.B j) = .O i := by simp [mvPsi, idxIn_of (n := 0) hnd hi]
    rw [this, mO, hi]; exact hx
   ·rw [hpsi j hj, mB j hj]; exact hx
 have get : ∀ x loc, m' x = some loc → loc ≠ .dead → (∃ j, x = .B j ∧ j ∉ mvs ∧ m (.B j) = some loc) ∨ (∃ i j, x = .O i ∧ mvs[i]? = some j ∧ m (.B j) = some loc) := fun x loc hx hl => by
  cases x with
  | B j =>
   by_cases hj : j ∈ mvs
   ·rw [mBd j hj, Option.map_eq_some_iff] at hx
    obtain ⟨_, _, e⟩ := hx
    exact absurd e.symm hl
   ·rw [mB j hj] at hx; exact .inl ⟨j, rfl, hj, hx⟩
  | O i =>
   rw [mO, Option.bind_eq_some_iff] at hx
   obtain ⟨j, h1, h2⟩ := hx
   exact .inr ⟨i, j, rfl, h1, h2⟩
 have lkB : ∀ j, j ∉ mvs → (entryM args bs mvs).lk (.B j) = ((bs[j]?).join).map (Blk.ren (mvPsi mvs)) := fun j hj => if_neg hj
 have lkO : ∀ i j, mvs[i]? = some j → (entryM args bs mvs).lk (.O i) = ((bs[j]?).join).map (Blk.ren (mvPsi mvs)) := fun i j hi => by
  show (mvs[i]?).bind _ = _
  rw [hi]; rfl
 have hjok : E.J ((entryM args bs mvs).env E.N) w := by
  show E.J ((AV.renL (mvPsi mvs) args).getD E.N .un) w
  rw [renL_get]
  exact E.Jren _ _ _ hA.jok
 refine ⟨G, m', ⟨fun x b sz hx => ?_, fun x hx => ?_, fun x y b sz sz' hx hy => ?_, hA.sim.gh, fun x hx => ?_, hA.sim.gl⟩, fun t => ?_, hA.size, hA.defers, hjok, fun i hi => ?_, hA.frame, fun j => ?_, fun i b sz hi => ?_, hA.noO, fun i hi => ?_⟩
 ·rcases get x _ hx (by simp) with ⟨j, rfl, hj, h1⟩ | ⟨i, j, rfl, hi, h1⟩
  ·obtain ⟨bl, h2, h3⟩ := hA.sim.blk _ b sz h1
   rw [hlk] at h2
   exact ⟨_, by rw [lkB j hj, h2]; rfl, h3.ren hback⟩
  ·obtain ⟨bl, h2, h3⟩ := hA.sim.blk _ b sz h1
   rw [hlk] at h2
   exact ⟨_, by rw [lkO i j hi, h2]; rfl, h3.ren hback⟩
 ·rcases get x _ hx (by simp) with ⟨j, rfl, hj, h1⟩ | ⟨i, j, rfl, hi, h1⟩
  ·obtain ⟨mt, k, h2⟩ := hA.sim.nil _ h1
   rw [hlk] at h2
   exact ⟨mt, k, by rw [lkB j hj, h2]; rfl⟩
  ·obtain ⟨mt, k, h2⟩ := hA.sim.nil _ h1
   rw [hlk] at h2
   exact ⟨mt, k, by rw [lkO i j hi, h2]; rfl⟩
 ·rcases get x _ hx (by simp) with ⟨j, rfl, hj, h1⟩ | ⟨i, j, rfl, hi, h1⟩ <;> rcases get y _ hy (by simp) with ⟨j', rfl, hj', h1'⟩ | ⟨i', j', rfl, hi', h1'⟩
  ·exact hA.sim.inj _ _ b sz sz' h1 h1'
  ·have := hA.sim.inj _ _ b sz sz' h1 h1'
   cases this
   exact absurd (List.mem_of_getElem? hi') hj
  ·have := hA.sim.inj _ _ b sz sz' h1 h1'
   cases this
   exact absurd (List.mem_of_getElem? hi) hj'
  ·have := hA.sim.inj _ _ b sz sz' h1 h1'
   cases this
   have hlt := (List.getElem?_eq_some_iff.1 hi).1
   rw [(List.getElem?_inj hlt hnd).1 (hi.trans hi'.symm)]
 ·cases x with
  | B j =>
   by_cases hj : j ∈ mvs
   ·exact if_pos hj
   ·rw [mB j hj] at hx
    have := hA.sim.dead _ hx
    rw [hlk] at this
    rw [lkB j hj, this]; rfl
  | O i =>
   rw [mO, Option.bind_eq_some_iff] at hx
   obtain ⟨j, h1, h2⟩ := hx
   have := hA.sim.dead _ h2
   rw [hlk] at this
   rw [lkO i j h1, this]; rfl
 ·show AV.Rep G m' ((AV.renL (mvPsi mvs) args).getD t .un) _
  rw [renL_get]
  exact AV.ren_rep hback _ _ (hA.env t)
 ·have hi : mvs.length ≤ i := hi
  rw [mO, List.getElem?_eq_none hi]; rfl
 ·by_cases hj : j ∈ mvs
  ·rw [mBd j hj]
   rcases hA.base j with h1 | ⟨h1, h2⟩
   ·cases e : m (.B j) with
    | none => left; rw [← h1, e]; rfl
    | some l => right; exact ⟨by rw [← h1, e]; simp, rfl⟩
   ·right; exact ⟨h1, by rw [h2]; rfl⟩
  ·rw [mB j hj]; exact hA.base j
 ·rw [mO, Option.bind_eq_some_iff] at hi
  obtain ⟨j, _, h2⟩ := hi
  rcases hA.base j with h1 | ⟨_, h1⟩
  ·exact .inr ⟨_, sz, h1 ▸ h2⟩
  ·rw [h1] at h2; cases h2
 ·have hi : mvs.length ≤ i := hi
  show (mvs[i]?).bind _ = none
  rw [List.getElem?_eq_none hi]; rfl

theorem ACall.of_bodyM {P : Program} (fl mvs : List Nat) {f : FuncId} {fn : Func} {c : Code} {rc : RCode} {rs : List RRes} {args : List AV} {bs : List (Option Blk)} {r : AV} {bs' : List (Option Blk)} {nbs : List Blk}
  (hf : P.funcs[f]? = some fn) (hb : fn.body = some c) (hname : (fn.name == "runtime.NumGoroutine") = false) (hm : P.follows .mixedOrders = true) (hrc : resolveCode P fl fn.ntmps c = some rc) (hrs : resolveResN P fn.ntmps fn.results.toList = some rs)
  (hn : args.length ≤ fn.ntmps) (hnd : mvs.Nodup) (h : acode P noY rc (AEndW bs.length rs r bs' nbs) (entryM args bs mvs)) : ACall P f args bs r bs' nbs :=
 ACall.of_bodyX fl _ hf hb hname hm hrc hrs hn (entryM_ok args bs mvs hnd) h

theorem ownL_set {l : List (Option Blk)} {i : Nat} {b : Option Blk} (h : i < l.length) : upd (ownL l) i b = ownL (l.set i b) := by
 funext j
 unfold upd ownL
 by_cases e : j = i
 ·subst e; simp [h]
 ·rw [if_neg e, List.getElem?_set_ne (fun q => e q.symm)]
theorem ownL_app {l : List (Option Blk)} {b : Option Blk} {n : Nat} (h : n = l.length) : upd (ownL l) n b = ownL (l ++ [b]) := by
 subst h
 funext j
 unfold upd ownL
 rcases Nat.lt_trichotomy j l.length with e | e | e
 ·rw [if_neg (by omega), List.getElem?_append_left e]
 ·subst e; simp
 ·rw [if_neg (by omega), List.getElem?_eq_none (by omega), List.getElem?_eq_none (by simp; omega)]

theorem entryM_eq (args : List AV) (bs : List (Option Blk)) (mvs : List Nat) (lb lo : List (Option Blk)) (h1 : ((List.range bs.length).map fun j => if j ∈ mvs then none else ((bs[j]?).join).map (Blk.ren (mvPsi mvs))) = lb) (h2 : (mvs.map fun j => ((bs[j]?).join).map (Blk.ren (mvPsi mvs))) = lo) :
  entryM args bs mvs = ⟨argL (AV.renL (mvPsi mvs) args), ownL lb, ownL lo, mvs.length⟩ := by
 unfold entryM
 congr 1
 ·funext j
  rw [← h1]
  unfold ownL
  rw [List.getElem?_map]
  by_cases hj : j < bs.length
  ·rw [List.getElem?_range hj]
   simp
  ·have h3 : (List.range bs.length)[j]? = none := List.getElem?_eq_none (by rw [List.length_range]; omega)
   rw [List.getElem?_eq_none (by omega), h3]
   simp
 ·funext i
  rw [← h2]
  unfold ownL
  rw [List.getElem?_map]
  cases mvs[i]? <;> simp

section
variable {P : Program} {s : AState} {d : Option Nat} {r : List RO} {K : AState → Prop}
theorem callE_of {fn : Nat} {f : Operand} {args : List Operand} {caps : List AV} {vals : List AV} {rr : AV} {hbs bs' : List (Option Blk)} {nbs : List Blk} (hs : List Hd) (hf : s.ev f = .clo fn caps) (hc : ACall P fn vals hbs rr bs' nbs) (hnd : hs.Nodup) (hl : bs'.length = hs.length)
  (ho : hsOk s.nx hs = true) (hlive : (hs.all fun h => (s.lk h).isSome) = true) (ha : AV.convL s.lk (phiH hs) (args.map s.ev ++ caps) = vals) (hb : handed s.lk hs = hbs)
  (h : aops P r (afterE s hs (args.map s.ev ++ caps) d rr bs' nbs) K) : st P s d r K (.callE f args) := by
 subst ha hb
 show acallE P s d (ks P r K) (args.map s.ev) (s.ev f)
 rw [hf]
 exact ⟨hs, rr, bs', nbs, hnd, ho, fun x hx => List.all_eq_true.1 hlive x hx, hl, hc, h⟩
theorem sb_nil {ψ : Hd → Hd} {bs : List (Option Blk)} : setBlks s ψ [] bs = s := by unfold setBlks; rfl
theorem sb_cons {ψ : Hd → Hd} {h : Hd} {hs : List Hd} {b : Option Blk} {bs : List (Option Blk)} : setBlks s ψ (h :: hs) (b :: bs) = setBlks (s.setBlk h (b.map (Blk.ren ψ))) ψ hs bs := by rw [setBlks]
theorem fzE_eq {lk : Look} {hs : List Hd} {args : List AV} : fzE lk hs args = (fzL lk (AV.rowsL args ++ boxRows lk hs)).filter fun h => decide (h ∉ hs) := (rfl)
theorem br_nil {lk : Look} : boxRows lk [] = [] := by unfold boxRows; rfl
def bRows : Option Blk → List Hd
 | some b => Blk.rows b
 | none => []
theorem br_cons {lk : Look} {h : Hd} {hs : List Hd} : boxRows lk (h :: hs) = bRows (lk h) ++ boxRows lk hs := by rw [boxRows]; rfl
theorem bR_box {cs : List AV} : bRows (some (.box cs)) = AV.rowsL cs := (rfl)
theorem bR_row {mt : Bool} {k : Nat} {es : List (List DV)} : bRows (some (.row mt k es)) = [] := (rfl)
theorem afterE_eq {hs : List Hd} {args : List AV} {rr : AV} {bs' : List (Option Blk)} {nbs : List Blk} : afterE s hs args d rr bs' nbs = (setBlks (s.put none .un [] (fzE s.lk hs args)) (backHd hs s.nx) hs bs').put d (AV.ren (backHd hs s.nx) rr) (nbs.map (Blk.ren (backHd hs s.nx))) [] := (rfl)
theorem idxH_nil {h : Hd} {n : Nat} : idxH h [] n = none := by unfold idxH; rfl
theorem idxH_cons {h x : Hd} {xs : List Hd} {n : Nat} : idxH h (x :: xs) n = if x = h then some n else idxH h xs (n + 1) := by rw [idxH]
theorem phiH_eq {hs : List Hd} {h : Hd} : phiH hs h = (idxH h hs 0).map .B := (rfl)
theorem hd_eq {lk : Look} {hs : List Hd} : handed lk hs = hs.map fun h => (lk h).map (Blk.conv lk (phiH hs)) := (rfl)
theorem hO_nil {n : Nat} : hsOk n [] = true := (rfl)
theorem hO_O {n j : Nat} {r : List Hd} : hsOk n (.O j :: r) = (decide (j < n) && hsOk n r) := (rfl)
theorem hO_B {n j : Nat} {r : List Hd} : hsOk n (.B j :: r) = hsOk n r := (rfl)
theorem mv_B {mvs : List Nat} {j : Nat} : mvPsi mvs (.B j) = ((idxIn j mvs 0).map Hd.O).getD (.B j) := by cases e : idxIn j mvs 0 <;> simp [mvPsi, e]
theorem mv_O {mvs : List Nat} {j : Nat} : mvPsi mvs (.O j) = .O j := (rfl)
end
def frzLs (fz : List Hd) : List (Option Blk) → Nat → List (Option Blk)
 | [], _ => []
 | b :: l, i => (if Hd.O i ∈ fz then b.map Blk.frz else b) :: frzLs fz l (i + 1)
theorem frzLs_get {fz : List Hd} : ∀ (l : List (Option Blk)) (i j : Nat), ((frzLs fz l i)[j]?).join = if Hd.O (i + j) ∈ fz then ((l[j]?).join).map Blk.frz else (l[j]?).join
 | [], i, j => by simp [frzLs]
 | b :: l, i, 0 => by simp only [frzLs, List.getElem?_cons_zero, Nat.add_zero, Option.join_some]
 | b :: l, i, j + 1 => by
  simp only [frzLs, List.getElem?_cons_succ]
  rw [frzLs_get l (i + 1) j, show i + 1 + j = i + (j + 1) by omega]
theorem f_L {l : List (Option Blk)} {x : Hd} {fz : List Hd} : frzO (ownL l) (x :: fz) = ownL (frzLs (x :: fz) l 0) := by
 funext j
 have := frzLs_get (fz := x :: fz) l 0 j
 rw [Nat.zero_add] at this
 exact this.symm
theorem fL_nil {fz : List Hd} {i : Nat} : frzLs fz [] i = [] := (rfl)
theorem fL_cons {fz : List Hd} {b : Option Blk} {l : List (Option Blk)} {i : Nat} : frzLs fz (b :: l) i = (if Hd.O i ∈ fz then b.map Blk.frz else b) :: frzLs fz l (i + 1) := (rfl)
attribute [push_cast] f_L fL_nil fL_cons ownL_set ownL_app sb_nil sb_cons fzE_eq br_nil br_cons bR_box bR_row afterE_eq idxH_nil idxH_cons phiH_eq hd_eq hO_nil hO_O hO_B mv_B mv_O List.filter_cons List.filter_nil List.all_cons List.all_nil Option.getD_some Option.getD_none List.set_cons_zero List.set_cons_succ List.range_succ List.range_zero List.map_append

end Go.Eng

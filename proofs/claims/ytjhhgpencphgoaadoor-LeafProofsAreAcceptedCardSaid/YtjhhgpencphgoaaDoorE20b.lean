import Derived.Test.YtjhhgpencphgoaaDoorE20
import Derived.RangeFuncIn
set_option linter.unusedSimpArgs false
set_option linter.unusedVariables false
namespace Go.Eng
open Go.RowKit

def shE (N : Nat) (top : Nat → AV) (g : AV) (low : Nat → AV) : Nat → AV := fun t => if t < N then top t else if t = N then g else low (t - N - 1)
def dnE (N : Nat) (env : Nat → AV) : Nat → AV := fun t => env (N + 1 + t)
def lstE (l : List AV) : Nat → AV := fun t => l.getD t .un
def setPs : List Nat → List AV → (Nat → AV) → Nat → AV
 | p :: ps, x :: xs, env => setPs ps xs (upd env p x)
 | _, _, env => env

def AState.withEnv (s : AState) (env : Nat → AV) : AState := { s with env := env }
def enterIt (N2 l : Nat) (caps : List AV) (s : AState) : AState := s.withEnv (shE N2 (lstE (.yld l :: caps)) (.gst none) s.env)
def leaveIt (N N2 : Nat) (s : AState) : AState := s.withEnv (upd (dnE N2 s.env) N .any)
def enterBd (N N2 : Nat) (ps : List Nat) (args : List AV) (s : AState) : AState := s.withEnv (shE N (setPs ps args (dnE N2 s.env)) .any s.env)
def leaveBd (N N2 : Nat) (c : Option Code) (s : AState) : AState := s.withEnv (upd (dnE N s.env) N2 (.gst c))

def nrm (k : AState → Prop) : Exit → AState → Prop
 | .normal, s => k s
 | _, _ => False
def bdQ (N N2 : Nat) (K : Bool → AState → Prop) : Exit → AState → Prop
 | .normal, s => K true (leaveBd N N2 none s)
 | .exit id, s => K false (leaveBd N N2 (some (.exit id)) s)
 | .ret, s => K false (leaveBd N N2 (some .ret) s)
 | _, _ => False
def itEnd (Q : Exit → AState → Prop) (s : AState) : AV → Prop
 | .gst none => Q .normal s
 | .gst (some (.exit id)) => Q (.exit id) s
 | .gst (some .ret) => Q .ret s
 | _ => False
def itQ (N N2 : Nat) (Q : Exit → AState → Prop) : Exit → AState → Prop := fun e s => (e = .normal ∨ e = .ret) ∧ itEnd Q (leaveIt N N2 s) (s.env N2)
def yIt (P : Program) (rcA rcB : RCode) (N N2 l : Nat) (ps : List Nat) : Yh :=
 ⟨false, fun l' args s K => l' = l ∧ args.length = ps.length ∧ s.env N2 = .gst none ∧ acode P bodyY rcA (nrm (acode P bodyY rcB (bdQ N N2 K))) (enterBd N N2 ps args s)⟩

structure RecAt (B : Nat) (fid : FuncId) (tmps : Array Value) (ps : Array Tmp) (as bd : Code) (ds : List Deferred) (st : LoopState) (pd : Option Code) (E : Ent) (x0 : AV) (w : World) : Prop where
 rec_ : w.heap[B + 1]? = some (.loop { state := st, pending := pd, fn := fid, tmps := tmps, params := ps, assign := as, body := bd, defers := B })
 blk : w.heap[B]? = some (.deferred (some []))
 marks : Marks (E.w0.heap.size + E.sk) E.nd ds w
 j : E.J x0 w

theorem RecAt.keep {B : Nat} {fid : FuncId} {tmps : Array Value} {ps : Array Tmp} {as bd : Code} {ds : List Deferred} {st : LoopState} {pd : Option Code} {E : Ent} {x0 : AV} {w w' : World} (h : RecAt B fid tmps ps as bd ds st pd E x0 w) (hk : KeepO w w') : RecAt B fid tmps ps as bd ds st pd E x0 w' :=
 ⟨hk _ _ h.rec_ (fun _ _ _ e => by cases e), hk _ _ h.blk (fun _ _ _ e => by cases e), h.marks.keep hk, E.Jkeep _ _ _ h.j hk⟩

theorem Marks.put {B : Nat} {nd : Bool} {ds : List Deferred} {w : World} (h : Marks B nd ds w) {r : Nat} {o : Obj} (hr : ∀ d ∈ ds, d.target ≠ .collected r) : Marks B nd ds (w.putObj r o) :=
 ⟨fun d hd => let ⟨r', h1, h2, h3⟩ := h.1 d hd; ⟨r', h1, h2, by rw [World.putObj_heap_other (fun e => hr d hd (by rw [h1, e]))]; exact h3⟩, h.2⟩

theorem RecAt.put {B : Nat} {fid : FuncId} {tmps : Array Value} {ps : Array Tmp} {as bd : Code} {ds : List Deferred} {st st' : LoopState} {pd pd' : Option Code} {E : Ent} {x0 : AV} {w : World} (h : RecAt B fid tmps ps as bd ds st pd E x0 w) (hB : E.w0.heap.size + E.sk ≤ B) :
    RecAt B fid tmps ps as bd ds st' pd' E x0 (w.putObj (B + 1) (.loop { state := st', pending := pd', fn := fid, tmps := tmps, params := ps, assign := as, body := bd, defers := B })) :=
  ⟨World.putObj_heap_same (Array.getElem?_eq_some_iff.1 h.rec_).1, by rw [World.putObj_heap_other (by omega)]; exact h.blk,
   h.marks.put (fun d hd e => by
     obtain ⟨r, h1, _, h3⟩ := h.marks.1 d hd
     rw [h1] at e; cases e
     rw [h.rec_] at h3; cases h3), E.Jput _ _ _ _ h.j (by omega)⟩

theorem RecAt.putO {B : Nat} {fid : FuncId} {tmps : Array Value} {ps : Array Tmp} {as bd : Code} {ds : List Deferred} {st : LoopState} {pd : Option Code} {E : Ent} {x0 : AV} {w : World} (h : RecAt B fid tmps ps as bd ds st pd E x0 w) (hlt : ∀ d ∈ ds, ∀ r, d.target = .collected r → r < B)
  (hB : E.w0.heap.size + E.sk ≤ B) {r : Nat} {o : Obj} (hr : B + 2 ≤ r) : RecAt B fid tmps ps as bd ds st pd E x0 (w.putObj r o) :=
 ⟨by rw [World.putObj_heap_other (by omega)]; exact h.rec_, by rw [World.putObj_heap_other (by omega)]; exact h.blk, h.marks.put (fun d hd e => by have := hlt d hd r e; omega), E.Jput _ _ _ _ h.j (by omega)⟩

def JIt (B : Nat) (fid : FuncId) (tmps : Array Value) (ps : Array Tmp) (as bd : Code) (ds : List Deferred) (E : Ent) (x0 : AV) (x : AV) (w : World) : Prop :=
 AV.isSl x = false ∧ ∃ st pd, st ≠ .busy ∧ RecAt B fid tmps ps as bd ds st pd E x0 w ∧ ∀ c, x = .gst c → pd = c ∧ (c = none → st = .ready)

theorem ren_gst {ψ : Hd → Hd} {x : AV} {c : Option Code} (h : AV.ren ψ x = .gst c) : x = .gst c := by cases x <;> simp_all [AV.ren]
theorem ren_sl {ψ : Hd → Hd} {x : AV} : AV.isSl (AV.ren ψ x) = AV.isSl x := by cases x <;> simp [AV.ren, AV.isSl]
theorem conv_gst {lk : Look} {φ : Hd → Option Hd} {x : AV} {c : Option Code} (h : AV.conv lk φ x = .gst c) : x = .gst c := by
 cases x <;> simp only [AV.conv] at h <;> (repeat' split at h) <;> first | (cases h; done) | exact h
theorem conv_sl {lk : Look} {φ : Hd → Option Hd} {x : AV} (h : AV.isSl x = false) : AV.isSl (AV.conv lk φ x) = false := by
 cases x <;> simp only [AV.conv] <;> (repeat' split) <;> first | rfl | (cases h; done)

section
variable {B : Nat} {fid : FuncId} {tmps : Array Value} {ps : Array Tmp} {as bd : Code} {ds : List Deferred} {E : Ent} {x0 : AV}

theorem JIt.keep (x : AV) (w w' : World) (h : JIt B fid tmps ps as bd ds E x0 x w) (hk : KeepO w w') : JIt B fid tmps ps as bd ds E x0 x w' :=
 let ⟨h0, st, pd, h1, h2, h3⟩ := h; ⟨h0, st, pd, h1, h2.keep hk, h3⟩
theorem JIt.any (x : AV) (w : World) (h : JIt B fid tmps ps as bd ds E x0 x w) : JIt B fid tmps ps as bd ds E x0 .any w :=
 let ⟨_, st, pd, h1, h2, _⟩ := h; ⟨rfl, st, pd, h1, h2, (fun _ e => by cases e)⟩
theorem JIt.sl (x : AV) (w : World) (y : AV) (hx : AV.isSl x = true) (h : JIt B fid tmps ps as bd ds E x0 x w) : JIt B fid tmps ps as bd ds E x0 y w := by
 have := h.1
 rw [hx] at this; cases this
theorem JIt.ren (x : AV) (w : World) (ψ : Hd → Hd) (h : JIt B fid tmps ps as bd ds E x0 x w) : JIt B fid tmps ps as bd ds E x0 (AV.ren ψ x) w :=
 let ⟨h0, st, pd, h1, h2, h3⟩ := h; ⟨by rw [ren_sl]; exact h0, st, pd, h1, h2, fun c e => h3 c (ren_gst e)⟩
theorem JIt.conv (x : AV) (w : World) (lk : Look) (φ : Hd → Option Hd) (h : JIt B fid tmps ps as bd ds E x0 x w) : JIt B fid tmps ps as bd ds E x0 (AV.conv lk φ x) w :=
 let ⟨h0, st, pd, h1, h2, h3⟩ := h; ⟨conv_sl h0, st, pd, h1, h2, fun c e => h3 c (conv_gst e)⟩
theorem JIt.put (hlt : ∀ d ∈ ds, ∀ r, d.target = .collected r → r < B) (hB : E.w0.heap.size + E.sk ≤ B) (x : AV) (w : World) (r : Nat) (o : Obj) (h : JIt B fid tmps ps as bd ds E x0 x w) (hr : B + 2 ≤ r) : JIt B fid tmps ps as bd ds E x0 x (w.putObj r o) :=
 let ⟨h0, st, pd, h1, h2, h3⟩ := h; ⟨h0, st, pd, h1, h2.putO hlt hB hr, h3⟩
theorem JIt.sz (x : AV) (w : World) (h : JIt B fid tmps ps as bd ds E x0 x w) : B + 2 ≤ w.heap.size :=
 let ⟨_, _, _, _, h2, _⟩ := h; (Array.getElem?_eq_some_iff.1 h2.rec_).1
end

theorem lk_withEnv (s : AState) (env : Nat → AV) : (s.withEnv env).lk = s.lk := by funext h; cases h <;> rfl

theorem AtS.turn {E E' : Ent} {G : Gh} {m : HM} {s : AState} {a a' : Act} {w w' : World} (h : AtS E G m s a w) (env : Nat → AV) (h0 : E'.w0 = E.w0) (h1 : E'.G0 = E.G0) (h2 : E'.m0 = E.m0) (hs : Sim G m s.lk w') (hf : Fr (Own E.m0) (Own E.m0) E.G0 G E.w0 w')
  (he : ∀ t, AV.Rep G m (env t) (E'.val a' t)) (hsz : a'.tmps.size = E'.N) (hd : Marks1 E'.dt (E'.w0.heap.size + E'.sk) E'.nd a'.defers w') (hj : E'.J (env E'.N) w') : AtS E' G m (s.withEnv env) a' w' := by
 refine ⟨by rw [lk_withEnv]; exact hs, he, hsz, hd, hj, h.fresh, by rw [h0, h1, h2]; exact hf, by rw [h2]; exact h.base, by rw [h0, h2]; exact h.own, trivial, h.nxOk⟩

theorem shE_rep {G : Gh} {m : HM} {N : Nat} {top low : Nat → AV} {g : AV} {v : Nat → Value} (h1 : ∀ t, t < N → AV.Rep G m (top t) (v t)) (h2 : AV.Rep G m g (v N)) (h3 : ∀ t, AV.Rep G m (low t) (v (N + 1 + t))) (t : Nat) : AV.Rep G m (shE N top g low t) (v t) := by
 unfold shE
 split
 ·exact h1 t ‹_›
 ·split
  ·rename_i e; subst e; exact h2
  ·rename_i ha hb
   have := h3 (t - N - 1)
   rwa [show N + 1 + (t - N - 1) = t by omega] at this

def cvLow (f : Nat → Value) : Nat → Value := fun j => if j = 0 then undef else f (j - 1)
theorem val_low {E : Ent} {a : Act} {f : Nat → Value} (h : E.cv = cvLow f) (t : Nat) : E.val a (E.N + 1 + t) = f t := by
 rw [Ent.val_ge (by omega), h]
 unfold cvLow
 rw [if_neg (by omega), show E.N + 1 + t - E.N - 1 = t by omega]
theorem rep_any {G : Gh} {m : HM} {v : Value} : AV.Rep G m .any v := by unfold AV.Rep; trivial
end Go.Eng

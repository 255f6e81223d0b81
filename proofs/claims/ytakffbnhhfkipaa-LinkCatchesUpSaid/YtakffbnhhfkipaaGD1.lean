/- Printed by a program: what the functions compute, and that they do (part 1). -/
import Derived.Test.YtakffbnhhfkipaaProg
import Derived.Test.YtakffbnhhfkipaaE26b
import Derived.Test.YtakffbnhhfkipaaE29
set_option linter.unusedSimpArgs false
set_option linter.unusedVariables false
set_option maxRecDepth 8000
namespace Go.Proofs.Try
open Go.Eng Go.RowKit
structure WAct where
  Kind : Int
  N : Int
  deriving DecidableEq, Inhabited
def WAct.row (x : WAct) : List DV := [.I .u8 x.Kind, .I .u8 x.N]
theorem WAct.uni {xs : List WAct} : Uni 2 (xs.map WAct.row) = True := uni_map (f := WAct.row) fun _ => rfl
theorem WAct.one {xs : List WAct} : oneL (xs.map WAct.row) = true := one_map (f := WAct.row) fun _ => rfl
attribute [push_cast] WAct.row WAct.uni WAct.one
attribute [simp] WAct.uni WAct.one
structure Outbox where
  Base : Int
  Acked : Int
  Summary : Str
  Queue : (List Str)
  deriving DecidableEq, Inhabited
def Outbox.row (x : Outbox) : List DV := [.I .i64 x.Base, .I .i64 x.Acked, .S x.Summary, .L (x.Queue.map rS)]
theorem Outbox.uni {xs : List Outbox} : Uni 4 (xs.map Outbox.row) = True := uni_map (f := Outbox.row) fun _ => rfl
theorem Outbox.one {xs : List Outbox} : oneL (xs.map Outbox.row) = true := one_map (f := Outbox.row) fun _ => rfl
attribute [push_cast] Outbox.row Outbox.uni Outbox.one
attribute [simp] Outbox.uni Outbox.one
structure Frame where
  Sum : Bool
  Seq : Int
  Body : Str
  deriving DecidableEq, Inhabited
def Frame.row (x : Frame) : List DV := [.B x.Sum, .I .i64 x.Seq, .S x.Body]
theorem Frame.uni {xs : List Frame} : Uni 3 (xs.map Frame.row) = True := uni_map (f := Frame.row) fun _ => rfl
theorem Frame.one {xs : List Frame} : oneL (xs.map Frame.row) = true := one_map (f := Frame.row) fun _ => rfl
attribute [push_cast] Frame.row Frame.uni Frame.one
attribute [simp] Frame.uni Frame.one
structure Inbox where
  Next : Int
  Ahead : (List Frame)
  deriving DecidableEq, Inhabited
def Inbox.row (x : Inbox) : List DV := [.I .i64 x.Next, .L (x.Ahead.map Frame.row)]
theorem Inbox.uni {xs : List Inbox} : Uni 2 (xs.map Inbox.row) = True := uni_map (f := Inbox.row) fun _ => rfl
theorem Inbox.one {xs : List Inbox} : oneL (xs.map Inbox.row) = true := one_map (f := Inbox.row) fun _ => rfl
attribute [push_cast] Inbox.row Inbox.uni Inbox.one
attribute [simp] Inbox.uni Inbox.one
structure WLine where
  O : Outbox
  I : Inbox
  Sent : (List Frame)
  Told : (List Int)
  Delivered : (List Frame)
  Bad : Bool
  deriving DecidableEq, Inhabited
def WLine.row (x : WLine) : List DV := [.I .i64 x.O.Base, .I .i64 x.O.Acked, .S x.O.Summary, .L (x.O.Queue.map rS), .I .i64 x.I.Next, .L (x.I.Ahead.map Frame.row), .L (x.Sent.map Frame.row), .L (x.Told.map (rI .i64)), .L (x.Delivered.map Frame.row), .B x.Bad]
theorem WLine.uni {xs : List WLine} : Uni 10 (xs.map WLine.row) = True := uni_map (f := WLine.row) fun _ => rfl
theorem WLine.one {xs : List WLine} : oneL (xs.map WLine.row) = true := one_map (f := WLine.row) fun _ => rfl
attribute [push_cast] WLine.row WLine.uni WLine.one
attribute [simp] WLine.uni WLine.one
/-! ## 31 rivermark.link.isBody -/
def f31g0 : List RO :=
  [⟨(.some 2), (.mv (.const (.bool .false))), .none⟩]
def f31g1 : List RO :=
  [⟨(.some 3), (.mv (.tmp 0)), .none⟩,
   ⟨(.some 4), (.len .true (.tmp 3)), .none⟩,
   ⟨(.some 5), (.bin .leq (.tmp 4) (.const (.int .i64 65536))), .none⟩,
   ⟨(.some 2), (.mv (.tmp 5)), .none⟩]
def f31c : RCode := (.seq (.reg .false f31g0) (.seq (.reg .false f31g1) .ret))
def f31r : List RRes := [(.tmp 2)]
attribute [push_cast] f31g0 f31g1
def F31 (N : Nat) (p0 : Str) : Option Bool := some (decide ((p0.length : Int) ≤ 65536))
theorem c31 (N : Nat) (p0 : Str) (r : Bool) (h : F31 N p0 = some r) : ACall Try.prog 31 [.D (.S p0)] [] (.D (.B r)) [] [] := by
  refine ACall.of_bodyW [] (fn := Try.f31) (rc := f31c) (rs := f31r) Try.func31 rfl rfl (by kernel_rfl) (by kernel_rfl) (by kernel_rfl) (by rw [Try.ntmps31]; simp) ?_
  unfold F31 at h
  unfold f31c f31r
  rw [entry_eq _ _]
  obtain rfl := Option.some.inj h
  simp (config := { maxSteps := 1000000 }) (disch := first | assumption | (simp; done) | omega | (simp; omega)) only [push_cast, reduceCtorEq, Nat.reduceEqDiff, Nat.reduceAdd, Nat.reduceSub, Nat.reduceMul, Nat.reduceLeDiff, Nat.reduceLT, Int.reduceEq, Int.reduceNe, Int.reduceLT, Int.reduceLE, Int.reduceGT, Int.reduceGE, Int.reduceBEq, Int.reduceBNe, ↓reduceIte]
  refine e_ret (.inr rfl) ?_
  simp (config := { maxSteps := 1000000 }) (disch := first | assumption | (simp; done) | omega | (simp; omega)) only [push_cast, reduceCtorEq, Nat.reduceEqDiff, Nat.reduceAdd, Nat.reduceSub, Nat.reduceMul, Nat.reduceLeDiff, Nat.reduceLT, Int.reduceEq, Int.reduceNe, Int.reduceLT, Int.reduceLE, Int.reduceGT, Int.reduceGE, Int.reduceBEq, Int.reduceBNe, ↓reduceIte, aret, aresults, aresult]
  refine ⟨_, rfl, ?_⟩
  first | (simp (config := { maxSteps := 1000000 }) (disch := first | assumption | (simp; done) | omega | (simp; omega)) only [push_cast, reduceCtorEq, Nat.reduceEqDiff, Nat.reduceAdd, Nat.reduceSub, Nat.reduceMul, Nat.reduceLeDiff, Nat.reduceLT, Int.reduceEq, Int.reduceNe, Int.reduceLT, Int.reduceLE, Int.reduceGT, Int.reduceGE, Int.reduceBEq, Int.reduceBNe, ↓reduceIte] <;> rfl) | rfl

/-! ## 38 rivermark.link.ValidOut$1 -/
def f38g0 : List RO :=
  [⟨(.some 2), (.mv (.const (.bool .false))), .none⟩]
def f38g1 : List RO :=
  [⟨(.some 3), (.mv (.tmp 0)), .none⟩,
   ⟨(.some 4), (.call (.func 31) [(.tmp 3)]), .none⟩,
   ⟨(.some 5), (.un .not (.tmp 4)), .none⟩,
   ⟨(.some 2), (.mv (.tmp 5)), .none⟩]
def f38c : RCode := (.seq (.reg .false f38g0) (.seq (.reg .false f38g1) .ret))
def f38r : List RRes := [(.tmp 2)]
attribute [push_cast] f38g0 f38g1
def F38 (N : Nat) (p0 : Str) : Option Bool := bd? (F31 N p0) fun v1 => some (!(v1))
theorem c38 (N : Nat) (p0 : Str) (r : Bool) (h : F38 N p0 = some r) : ACall Try.prog 38 [.D (.S p0)] [] (.D (.B r)) [] [] := by
  refine ACall.of_bodyW [] (fn := Try.f38) (rc := f38c) (rs := f38r) Try.func38 rfl rfl (by kernel_rfl) (by kernel_rfl) (by kernel_rfl) (by rw [Try.ntmps38]; simp) ?_
  unfold F38 at h
  unfold f38c f38r
  rw [entry_eq _ _]
  obtain ⟨v1, h2, h⟩ := F_bd h
  simp (config := { maxSteps := 1000000 }) (disch := first | assumption | (simp; done) | omega | (simp; omega)) only [push_cast, reduceCtorEq, Nat.reduceEqDiff, Nat.reduceAdd, Nat.reduceSub, Nat.reduceMul, Nat.reduceLeDiff, Nat.reduceLT, Int.reduceEq, Int.reduceNe, Int.reduceLT, Int.reduceLE, Int.reduceGT, Int.reduceGE, Int.reduceBEq, Int.reduceBNe, ↓reduceIte]
  refine call_flat (by rfl) (c31 N _ _ h2) ?_ rfl ?_
  · simp (config := { maxSteps := 1000000 }) (disch := first | assumption | (simp; done) | omega | (simp; omega)) only [push_cast, reduceCtorEq, Nat.reduceEqDiff, Nat.reduceAdd, Nat.reduceSub, Nat.reduceMul, Nat.reduceLeDiff, Nat.reduceLT, Int.reduceEq, Int.reduceNe, Int.reduceLT, Int.reduceLE, Int.reduceGT, Int.reduceGE, Int.reduceBEq, Int.reduceBNe, ↓reduceIte] <;> rfl
  obtain rfl := Option.some.inj h
  simp (config := { maxSteps := 1000000 }) (disch := first | assumption | (simp; done) | omega | (simp; omega)) only [push_cast, reduceCtorEq, Nat.reduceEqDiff, Nat.reduceAdd, Nat.reduceSub, Nat.reduceMul, Nat.reduceLeDiff, Nat.reduceLT, Int.reduceEq, Int.reduceNe, Int.reduceLT, Int.reduceLE, Int.reduceGT, Int.reduceGE, Int.reduceBEq, Int.reduceBNe, ↓reduceIte]
  refine e_ret (.inr rfl) ?_
  simp (config := { maxSteps := 1000000 }) (disch := first | assumption | (simp; done) | omega | (simp; omega)) only [push_cast, reduceCtorEq, Nat.reduceEqDiff, Nat.reduceAdd, Nat.reduceSub, Nat.reduceMul, Nat.reduceLeDiff, Nat.reduceLT, Int.reduceEq, Int.reduceNe, Int.reduceLT, Int.reduceLE, Int.reduceGT, Int.reduceGE, Int.reduceBEq, Int.reduceBNe, ↓reduceIte, aret, aresults, aresult]
  refine ⟨_, rfl, ?_⟩
  first | (simp (config := { maxSteps := 1000000 }) (disch := first | assumption | (simp; done) | omega | (simp; omega)) only [push_cast, reduceCtorEq, Nat.reduceEqDiff, Nat.reduceAdd, Nat.reduceSub, Nat.reduceMul, Nat.reduceLeDiff, Nat.reduceLT, Int.reduceEq, Int.reduceNe, Int.reduceLT, Int.reduceLE, Int.reduceGT, Int.reduceGE, Int.reduceBEq, Int.reduceBNe, ↓reduceIte] <;> rfl) | rfl

/-! ## 49 slices.IndexFunc[[]string,string] -/
def f49g0 : List RO :=
  [⟨(.some 4), (.mv (.const (.int .i64 0))), .none⟩]
def f49g1 : List RO :=
  [⟨(.some 6), (.mv (.tmp 0)), .none⟩,
   ⟨(.some 7), (.len .false (.tmp 6)), .none⟩,
   ⟨(.some 8), (.mv (.const (.int .i64 0))), .none⟩]
def f49g2 : List RO :=
  [⟨(.some 9), (.bin .lss (.tmp 8) (.tmp 7)), .none⟩]
def f49g3 : List RO :=
  [⟨(.some 10), (.mv (.tmp 8)), .none⟩,
   ⟨(.some 5), (.mv (.tmp 10)), .none⟩]
def f49g4 : List RO :=
  [⟨(.some 11), (.mv (.tmp 1)), .none⟩,
   ⟨(.some 12), (.mv (.tmp 0)), .none⟩,
   ⟨(.some 13), (.mv (.tmp 5)), .none⟩,
   ⟨(.some 14), (.iaddr 1 (.tmp 12) (.tmp 13)), .none⟩,
   ⟨(.some 15), (.load .none (.tmp 14)), .none⟩,
   ⟨(.some 16), (.call (.tmp 11) [(.tmp 15)]), .none⟩]
def f49g5 : List RO :=
  [⟨(.some 17), (.mv (.tmp 5)), .none⟩,
   ⟨(.some 4), (.mv (.tmp 17)), .none⟩]
def f49g6 : List RO :=
  [⟨(.some 18), (.bin .add (.tmp 8) (.const (.int .i64 1))), .none⟩,
   ⟨(.some 8), (.mv (.tmp 18)), .none⟩]
def f49b7 : RCode := (.seq (.reg .false f49g2) (.seq (.cond (.tmp 9) .skip (.exit 0)) (.seq (.block 1 (.seq (.reg .false f49g3) (.seq (.reg .false f49g4) (.cond (.tmp 16) (.seq (.reg .false f49g5) .ret) .skip)))) (.reg .false f49g6))))
def f49g8 : List RO :=
  [⟨(.some 4), (.mv (.const (.int .i64 (-1)))), .none⟩]
def f49c : RCode := (.seq (.reg .false f49g0) (.seq (.seq (.reg .false f49g1) (.block 0 (.loop f49b7))) (.seq (.reg .false f49g8) .ret)))
def f49r : List RRes := [(.tmp 4)]
attribute [push_cast] f49g0 f49g1 f49g2 f49g3 f49g4 f49g5 f49g6 f49g8
def L49_0 (N : Nat) (p0 : (List Str)) : Nat → Int → Option Int
  | 0, _ => none
  | m1+1, a1 => if? (decide (a1 < (p0.length : Int))) (get? p0 (a1) fun x2 => bd? (F38 N x2) fun v3 => if? (v3) (some (a1)) (ck .i64 (a1 + 1) (L49_0 N p0 m1 (a1 + 1)))) (some ((-1)))
def I49_0 (N : Nat) (p0 : (List Str)) (r : Int) (n : Nat) (s : AState) : Prop := ∃ (a1 : Int), L49_0 N p0 n a1 = some r ∧ s = ⟨envL [(0, .D (.L (p0.map rS))), (1, .clo 38 []), (7, .D (.I .i64 (p0.length : Int))), (8, .D (.I .i64 a1))], ownL [], ownL [], 0⟩
def F49 (N : Nat) (p0 : (List Str)) : Option Int := L49_0 N p0 N 0
theorem c49 (N : Nat) (p0 : (List Str)) (r : Int) (h : F49 N p0 = some r) : ACall Try.prog 49 [.D (.L (p0.map rS)), .clo 38 []] [] (.D (.I .i64 r)) [] [] := by
  refine ACall.of_bodyW [] (fn := Try.f49) (rc := f49c) (rs := f49r) Try.func49 rfl rfl (by kernel_rfl) (by kernel_rfl) (by kernel_rfl) (by rw [Try.ntmps49]; simp) ?_
  unfold F49 at h
  unfold f49c f49r
  rw [entry_eq _ _]
  simp (config := { maxSteps := 1000000 }) (disch := first | assumption | (simp; done) | omega | (simp; omega)) only [push_cast, reduceCtorEq, Nat.reduceEqDiff, Nat.reduceAdd, Nat.reduceSub, Nat.reduceMul, Nat.reduceLeDiff, Nat.reduceLT, Int.reduceEq, Int.reduceNe, Int.reduceLT, Int.reduceLE, Int.reduceGT, Int.reduceGE, Int.reduceBEq, Int.reduceBNe, ↓reduceIte]
  refine loop_of (I49_0 N p0 _) N [0, 1, 7, 8] [] (by decide) ⟨0, h, ?_⟩ ?_
  · rw [wk_mk]
    simp (config := { maxSteps := 1000000 }) (disch := first | assumption | (simp; done) | omega | (simp; omega)) only [push_cast, reduceCtorEq, Nat.reduceEqDiff, Nat.reduceAdd, Nat.reduceSub, Nat.reduceMul, Nat.reduceLeDiff, Nat.reduceLT, Int.reduceEq, Int.reduceNe, Int.reduceLT, Int.reduceLE, Int.reduceGT, Int.reduceGE, Int.reduceBEq, Int.reduceBNe, ↓reduceIte] <;> rfl
  · rintro n s ⟨a1, h, rfl⟩
    cases n with
    | zero => exact absurd h (by simp [L49_0])
    | succ m1 =>
      rw [L49_0] at h
      unfold f49b7
      rcases F_if h with ⟨h11, h⟩ | ⟨h11, h⟩
      · try simp (disch := first | assumption | (simp; done) | omega | (simp; omega)) only [push_cast, reduceCtorEq, Nat.reduceEqDiff, Nat.reduceAdd, Nat.reduceSub, Nat.reduceMul, Nat.reduceLeDiff, Nat.reduceLT, Int.reduceEq, Int.reduceNe, Int.reduceLT, Int.reduceLE, Int.reduceGT, Int.reduceGE, Int.reduceBEq, Int.reduceBNe, ↓reduceIte] at h11
        obtain ⟨x2, h12, h13, h⟩ := F_get h
        have h15 := get_lt h12 h13
        have h14 := map_get rS h13
        try simp (disch := first | assumption | (simp; done) | omega | (simp; omega)) only [push_cast, reduceCtorEq, Nat.reduceEqDiff, Nat.reduceAdd, Nat.reduceSub, Nat.reduceMul, Nat.reduceLeDiff, Nat.reduceLT, Int.reduceEq, Int.reduceNe, Int.reduceLT, Int.reduceLE, Int.reduceGT, Int.reduceGE, Int.reduceBEq, Int.reduceBNe, ↓reduceIte] at h14
        try simp (disch := first | assumption | (simp; done) | omega | (simp; omega)) only [push_cast, reduceCtorEq, Nat.reduceEqDiff, Nat.reduceAdd, Nat.reduceSub, Nat.reduceMul, Nat.reduceLeDiff, Nat.reduceLT, Int.reduceEq, Int.reduceNe, Int.reduceLT, Int.reduceLE, Int.reduceGT, Int.reduceGE, Int.reduceBEq, Int.reduceBNe, ↓reduceIte] at h15
        obtain ⟨v3, h16, h⟩ := F_bd h
        simp (config := { maxSteps := 1000000 }) (disch := first | assumption | (simp; done) | omega | (simp; omega)) only [push_cast, reduceCtorEq, Nat.reduceEqDiff, Nat.reduceAdd, Nat.reduceSub, Nat.reduceMul, Nat.reduceLeDiff, Nat.reduceLT, Int.reduceEq, Int.reduceNe, Int.reduceLT, Int.reduceLE, Int.reduceGT, Int.reduceGE, Int.reduceBEq, Int.reduceBNe, ↓reduceIte, h11, h12, h14, h15]
        refine call_flat (by rfl) (c38 N _ _ h16) ?_ rfl ?_
        · simp (config := { maxSteps := 1000000 }) (disch := first | assumption | (simp; done) | omega | (simp; omega)) only [push_cast, reduceCtorEq, Nat.reduceEqDiff, Nat.reduceAdd, Nat.reduceSub, Nat.reduceMul, Nat.reduceLeDiff, Nat.reduceLT, Int.reduceEq, Int.reduceNe, Int.reduceLT, Int.reduceLE, Int.reduceGT, Int.reduceGE, Int.reduceBEq, Int.reduceBNe, ↓reduceIte, h11, h12, h14, h15] <;> rfl
        rcases F_if h with ⟨h17, h⟩ | ⟨h17, h⟩
        · try simp (disch := first | assumption | (simp; done) | omega | (simp; omega)) only [push_cast, reduceCtorEq, Nat.reduceEqDiff, Nat.reduceAdd, Nat.reduceSub, Nat.reduceMul, Nat.reduceLeDiff, Nat.reduceLT, Int.reduceEq, Int.reduceNe, Int.reduceLT, Int.reduceLE, Int.reduceGT, Int.reduceGE, Int.reduceBEq, Int.reduceBNe, ↓reduceIte] at h17
          obtain rfl := Option.some.inj h
          simp (config := { maxSteps := 1000000 }) (disch := first | assumption | (simp; done) | omega | (simp; omega)) only [push_cast, reduceCtorEq, Nat.reduceEqDiff, Nat.reduceAdd, Nat.reduceSub, Nat.reduceMul, Nat.reduceLeDiff, Nat.reduceLT, Int.reduceEq, Int.reduceNe, Int.reduceLT, Int.reduceLE, Int.reduceGT, Int.reduceGE, Int.reduceBEq, Int.reduceBNe, ↓reduceIte, h11, h12, h14, h15, h17]
          refine e_ret (.inr rfl) ?_
          simp (config := { maxSteps := 1000000 }) (disch := first | assumption | (simp; done) | omega | (simp; omega)) only [push_cast, reduceCtorEq, Nat.reduceEqDiff, Nat.reduceAdd, Nat.reduceSub, Nat.reduceMul, Nat.reduceLeDiff, Nat.reduceLT, Int.reduceEq, Int.reduceNe, Int.reduceLT, Int.reduceLE, Int.reduceGT, Int.reduceGE, Int.reduceBEq, Int.reduceBNe, ↓reduceIte, aret, aresults, aresult, h11, h12, h14, h15, h17]
          refine ⟨_, rfl, ?_⟩
          first | (simp (config := { maxSteps := 1000000 }) (disch := first | assumption | (simp; done) | omega | (simp; omega)) only [push_cast, reduceCtorEq, Nat.reduceEqDiff, Nat.reduceAdd, Nat.reduceSub, Nat.reduceMul, Nat.reduceLeDiff, Nat.reduceLT, Int.reduceEq, Int.reduceNe, Int.reduceLT, Int.reduceLE, Int.reduceGT, Int.reduceGE, Int.reduceBEq, Int.reduceBNe, ↓reduceIte, h11, h12, h14, h15, h17] <;> rfl) | rfl
        · try simp (disch := first | assumption | (simp; done) | omega | (simp; omega)) only [push_cast, reduceCtorEq, Nat.reduceEqDiff, Nat.reduceAdd, Nat.reduceSub, Nat.reduceMul, Nat.reduceLeDiff, Nat.reduceLT, Int.reduceEq, Int.reduceNe, Int.reduceLT, Int.reduceLE, Int.reduceGT, Int.reduceGE, Int.reduceBEq, Int.reduceBNe, ↓reduceIte] at h17
          obtain ⟨h18, h⟩ := F_ck h
          try simp (disch := first | assumption | (simp; done) | omega | (simp; omega)) only [push_cast, reduceCtorEq, Nat.reduceEqDiff, Nat.reduceAdd, Nat.reduceSub, Nat.reduceMul, Nat.reduceLeDiff, Nat.reduceLT, Int.reduceEq, Int.reduceNe, Int.reduceLT, Int.reduceLE, Int.reduceGT, Int.reduceGE, Int.reduceBEq, Int.reduceBNe, ↓reduceIte] at h18
          simp (config := { maxSteps := 1000000 }) (disch := first | assumption | (simp; done) | omega | (simp; omega)) only [push_cast, reduceCtorEq, Nat.reduceEqDiff, Nat.reduceAdd, Nat.reduceSub, Nat.reduceMul, Nat.reduceLeDiff, Nat.reduceLT, Int.reduceEq, Int.reduceNe, Int.reduceLT, Int.reduceLE, Int.reduceGT, Int.reduceGE, Int.reduceBEq, Int.reduceBNe, ↓reduceIte, h11, h12, h14, h15, h17, h18]
          refine lpK_of m1 [0, 1, 7, 8] [] (by omega) (by decide) ⟨(a1 + 1), h, ?_⟩
          rw [wk_mk]
          simp (config := { maxSteps := 1000000 }) (disch := first | assumption | (simp; done) | omega | (simp; omega)) only [push_cast, reduceCtorEq, Nat.reduceEqDiff, Nat.reduceAdd, Nat.reduceSub, Nat.reduceMul, Nat.reduceLeDiff, Nat.reduceLT, Int.reduceEq, Int.reduceNe, Int.reduceLT, Int.reduceLE, Int.reduceGT, Int.reduceGE, Int.reduceBEq, Int.reduceBNe, ↓reduceIte, h11, h12, h14, h15, h17, h18] <;> rfl
      · try simp (disch := first | assumption | (simp; done) | omega | (simp; omega)) only [push_cast, reduceCtorEq, Nat.reduceEqDiff, Nat.reduceAdd, Nat.reduceSub, Nat.reduceMul, Nat.reduceLeDiff, Nat.reduceLT, Int.reduceEq, Int.reduceNe, Int.reduceLT, Int.reduceLE, Int.reduceGT, Int.reduceGE, Int.reduceBEq, Int.reduceBNe, ↓reduceIte] at h11
        obtain rfl := Option.some.inj h
        simp (config := { maxSteps := 1000000 }) (disch := first | assumption | (simp; done) | omega | (simp; omega)) only [push_cast, reduceCtorEq, Nat.reduceEqDiff, Nat.reduceAdd, Nat.reduceSub, Nat.reduceMul, Nat.reduceLeDiff, Nat.reduceLT, Int.reduceEq, Int.reduceNe, Int.reduceLT, Int.reduceLE, Int.reduceGT, Int.reduceGE, Int.reduceBEq, Int.reduceBNe, ↓reduceIte, h11]
        refine e_ret (.inr rfl) ?_
        simp (config := { maxSteps := 1000000 }) (disch := first | assumption | (simp; done) | omega | (simp; omega)) only [push_cast, reduceCtorEq, Nat.reduceEqDiff, Nat.reduceAdd, Nat.reduceSub, Nat.reduceMul, Nat.reduceLeDiff, Nat.reduceLT, Int.reduceEq, Int.reduceNe, Int.reduceLT, Int.reduceLE, Int.reduceGT, Int.reduceGE, Int.reduceBEq, Int.reduceBNe, ↓reduceIte, aret, aresults, aresult, h11]
        refine ⟨_, rfl, ?_⟩
        first | (simp (config := { maxSteps := 1000000 }) (disch := first | assumption | (simp; done) | omega | (simp; omega)) only [push_cast, reduceCtorEq, Nat.reduceEqDiff, Nat.reduceAdd, Nat.reduceSub, Nat.reduceMul, Nat.reduceLeDiff, Nat.reduceLT, Int.reduceEq, Int.reduceNe, Int.reduceLT, Int.reduceLE, Int.reduceGT, Int.reduceGE, Int.reduceBEq, Int.reduceBNe, ↓reduceIte, h11] <;> rfl) | rfl

/-! ## 37 slices.ContainsFunc[[]string,string] -/
def f37g0 : List RO :=
  [⟨(.some 4), (.mv (.const (.bool .false))), .none⟩]
def f37g1 : List RO :=
  [⟨(.some 5), (.mv (.tmp 0)), .none⟩,
   ⟨(.some 6), (.mv (.tmp 1)), .none⟩,
   ⟨(.some 7), (.call (.func 49) [(.tmp 5), (.tmp 6)]), .none⟩,
   ⟨(.some 8), (.bin .geq (.tmp 7) (.const (.int .i64 0))), .none⟩,
   ⟨(.some 4), (.mv (.tmp 8)), .none⟩]
def f37c : RCode := (.seq (.reg .false f37g0) (.seq (.reg .false f37g1) .ret))
def f37r : List RRes := [(.tmp 4)]
attribute [push_cast] f37g0 f37g1
def F37 (N : Nat) (p0 : (List Str)) : Option Bool := bd? (F49 N p0) fun v1 => some (decide (v1 ≥ 0))
theorem c37 (N : Nat) (p0 : (List Str)) (r : Bool) (h : F37 N p0 = some r) : ACall Try.prog 37 [.D (.L (p0.map rS)), .clo 38 []] [] (.D (.B r)) [] [] := by
  refine ACall.of_bodyW [] (fn := Try.f37) (rc := f37c) (rs := f37r) Try.func37 rfl rfl (by kernel_rfl) (by kernel_rfl) (by kernel_rfl) (by rw [Try.ntmps37]; simp) ?_
  unfold F37 at h
  unfold f37c f37r
  rw [entry_eq _ _]
  obtain ⟨v1, h20, h⟩ := F_bd h
  simp (config := { maxSteps := 1000000 }) (disch := first | assumption | (simp; done) | omega | (simp; omega)) only [push_cast, reduceCtorEq, Nat.reduceEqDiff, Nat.reduceAdd, Nat.reduceSub, Nat.reduceMul, Nat.reduceLeDiff, Nat.reduceLT, Int.reduceEq, Int.reduceNe, Int.reduceLT, Int.reduceLE, Int.reduceGT, Int.reduceGE, Int.reduceBEq, Int.reduceBNe, ↓reduceIte]
  refine call_flat (by rfl) (c49 N _ _ h20) ?_ rfl ?_
  · simp (config := { maxSteps := 1000000 }) (disch := first | assumption | (simp; done) | omega | (simp; omega)) only [push_cast, reduceCtorEq, Nat.reduceEqDiff, Nat.reduceAdd, Nat.reduceSub, Nat.reduceMul, Nat.reduceLeDiff, Nat.reduceLT, Int.reduceEq, Int.reduceNe, Int.reduceLT, Int.reduceLE, Int.reduceGT, Int.reduceGE, Int.reduceBEq, Int.reduceBNe, ↓reduceIte] <;> rfl
  obtain rfl := Option.some.inj h
  simp (config := { maxSteps := 1000000 }) (disch := first | assumption | (simp; done) | omega | (simp; omega)) only [push_cast, reduceCtorEq, Nat.reduceEqDiff, Nat.reduceAdd, Nat.reduceSub, Nat.reduceMul, Nat.reduceLeDiff, Nat.reduceLT, Int.reduceEq, Int.reduceNe, Int.reduceLT, Int.reduceLE, Int.reduceGT, Int.reduceGE, Int.reduceBEq, Int.reduceBNe, ↓reduceIte]
  refine e_ret (.inr rfl) ?_
  simp (config := { maxSteps := 1000000 }) (disch := first | assumption | (simp; done) | omega | (simp; omega)) only [push_cast, reduceCtorEq, Nat.reduceEqDiff, Nat.reduceAdd, Nat.reduceSub, Nat.reduceMul, Nat.reduceLeDiff, Nat.reduceLT, Int.reduceEq, Int.reduceNe, Int.reduceLT, Int.reduceLE, Int.reduceGT, Int.reduceGE, Int.reduceBEq, Int.reduceBNe, ↓reduceIte, aret, aresults, aresult]
  refine ⟨_, rfl, ?_⟩
  first | (simp (config := { maxSteps := 1000000 }) (disch := first | assumption | (simp; done) | omega | (simp; omega)) only [push_cast, reduceCtorEq, Nat.reduceEqDiff, Nat.reduceAdd, Nat.reduceSub, Nat.reduceMul, Nat.reduceLeDiff, Nat.reduceLT, Int.reduceEq, Int.reduceNe, Int.reduceLT, Int.reduceLE, Int.reduceGT, Int.reduceGE, Int.reduceBEq, Int.reduceBNe, ↓reduceIte] <;> rfl) | rfl

/-! ## 35 rivermark.link.within[int] -/
def f35g0 : List RO :=
  [⟨(.some 4), (.mv (.const (.bool .false))), .none⟩]
def f35g1 : List RO :=
  [⟨(.some 5), (.mv (.tmp 0)), .none⟩,
   ⟨(.some 6), (.bin .geq (.tmp 5) (.const (.int .i64 0))), .none⟩,
   ⟨(.some 7), (.mv (.tmp 6)), .none⟩,
   ⟨(.some 8), (.mv (.tmp 0)), (.some (7, .true))⟩,
   ⟨(.some 9), (.mv (.tmp 1)), (.some (7, .true))⟩,
   ⟨(.some 10), (.bin .leq (.tmp 8) (.tmp 9)), (.some (7, .true))⟩,
   ⟨(.some 11), (.pick (.tmp 7) (.tmp 10) (.const (.bool .false))), .none⟩,
   ⟨(.some 4), (.mv (.tmp 11)), .none⟩]
def f35c : RCode := (.seq (.reg .false f35g0) (.seq (.reg .false f35g1) .ret))
def f35r : List RRes := [(.tmp 4)]
attribute [push_cast] f35g0 f35g1
def F35 (N : Nat) (p0 : Int) (p1 : Int) : Option Bool := if? (decide (p0 ≥ 0)) (some (decide (p0 ≤ p1))) (some (false))
theorem c35 (N : Nat) (p0 : Int) (p1 : Int) (r : Bool) (h : F35 N p0 p1 = some r) : ACall Try.prog 35 [.D (.I .i64 p0), .D (.I .i64 p1)] [] (.D (.B r)) [] [] := by
  refine ACall.of_bodyW [] (fn := Try.f35) (rc := f35c) (rs := f35r) Try.func35 rfl rfl (by kernel_rfl) (by kernel_rfl) (by kernel_rfl) (by rw [Try.ntmps35]; simp) ?_
  unfold F35 at h
  unfold f35c f35r
  rw [entry_eq _ _]
  rcases F_if h with ⟨h22, h⟩ | ⟨h22, h⟩
  · try simp (disch := first | assumption | (simp; done) | omega | (simp; omega)) only [push_cast, reduceCtorEq, Nat.reduceEqDiff, Nat.reduceAdd, Nat.reduceSub, Nat.reduceMul, Nat.reduceLeDiff, Nat.reduceLT, Int.reduceEq, Int.reduceNe, Int.reduceLT, Int.reduceLE, Int.reduceGT, Int.reduceGE, Int.reduceBEq, Int.reduceBNe, ↓reduceIte] at h22
    obtain rfl := Option.some.inj h
    simp (config := { maxSteps := 1000000 }) (disch := first | assumption | (simp; done) | omega | (simp; omega)) only [push_cast, reduceCtorEq, Nat.reduceEqDiff, Nat.reduceAdd, Nat.reduceSub, Nat.reduceMul, Nat.reduceLeDiff, Nat.reduceLT, Int.reduceEq, Int.reduceNe, Int.reduceLT, Int.reduceLE, Int.reduceGT, Int.reduceGE, Int.reduceBEq, Int.reduceBNe, ↓reduceIte, h22]
    refine e_ret (.inr rfl) ?_
    simp (config := { maxSteps := 1000000 }) (disch := first | assumption | (simp; done) | omega | (simp; omega)) only [push_cast, reduceCtorEq, Nat.reduceEqDiff, Nat.reduceAdd, Nat.reduceSub, Nat.reduceMul, Nat.reduceLeDiff, Nat.reduceLT, Int.reduceEq, Int.reduceNe, Int.reduceLT, Int.reduceLE, Int.reduceGT, Int.reduceGE, Int.reduceBEq, Int.reduceBNe, ↓reduceIte, aret, aresults, aresult, h22]
    refine ⟨_, rfl, ?_⟩
    first | (simp (config := { maxSteps := 1000000 }) (disch := first | assumption | (simp; done) | omega | (simp; omega)) only [push_cast, reduceCtorEq, Nat.reduceEqDiff, Nat.reduceAdd, Nat.reduceSub, Nat.reduceMul, Nat.reduceLeDiff, Nat.reduceLT, Int.reduceEq, Int.reduceNe, Int.reduceLT, Int.reduceLE, Int.reduceGT, Int.reduceGE, Int.reduceBEq, Int.reduceBNe, ↓reduceIte, h22] <;> rfl) | rfl
  · try simp (disch := first | assumption | (simp; done) | omega | (simp; omega)) only [push_cast, reduceCtorEq, Nat.reduceEqDiff, Nat.reduceAdd, Nat.reduceSub, Nat.reduceMul, Nat.reduceLeDiff, Nat.reduceLT, Int.reduceEq, Int.reduceNe, Int.reduceLT, Int.reduceLE, Int.reduceGT, Int.reduceGE, Int.reduceBEq, Int.reduceBNe, ↓reduceIte] at h22
    obtain rfl := Option.some.inj h
    simp (config := { maxSteps := 1000000 }) (disch := first | assumption | (simp; done) | omega | (simp; omega)) only [push_cast, reduceCtorEq, Nat.reduceEqDiff, Nat.reduceAdd, Nat.reduceSub, Nat.reduceMul, Nat.reduceLeDiff, Nat.reduceLT, Int.reduceEq, Int.reduceNe, Int.reduceLT, Int.reduceLE, Int.reduceGT, Int.reduceGE, Int.reduceBEq, Int.reduceBNe, ↓reduceIte, h22]
    refine e_ret (.inr rfl) ?_
    simp (config := { maxSteps := 1000000 }) (disch := first | assumption | (simp; done) | omega | (simp; omega)) only [push_cast, reduceCtorEq, Nat.reduceEqDiff, Nat.reduceAdd, Nat.reduceSub, Nat.reduceMul, Nat.reduceLeDiff, Nat.reduceLT, Int.reduceEq, Int.reduceNe, Int.reduceLT, Int.reduceLE, Int.reduceGT, Int.reduceGE, Int.reduceBEq, Int.reduceBNe, ↓reduceIte, aret, aresults, aresult, h22]
    refine ⟨_, rfl, ?_⟩
    first | (simp (config := { maxSteps := 1000000 }) (disch := first | assumption | (simp; done) | omega | (simp; omega)) only [push_cast, reduceCtorEq, Nat.reduceEqDiff, Nat.reduceAdd, Nat.reduceSub, Nat.reduceMul, Nat.reduceLeDiff, Nat.reduceLT, Int.reduceEq, Int.reduceNe, Int.reduceLT, Int.reduceLE, Int.reduceGT, Int.reduceGE, Int.reduceBEq, Int.reduceBNe, ↓reduceIte, h22] <;> rfl) | rfl

/-! ## 32 rivermark.link.end -/
def f32g0 : List RO :=
  [⟨(.some 1), (.box (.tmp 0)), .none⟩,
   ⟨(.some 2), (.mv (.const (.int .i64 0))), .none⟩]
def f32g1 : List RO :=
  [⟨(.some 3), (.faddr 0 (.tmp 1)), .none⟩,
   ⟨(.some 4), (.load .none (.tmp 3)), .none⟩,
   ⟨(.some 5), (.faddr 3 (.tmp 1)), .none⟩,
   ⟨(.some 6), (.load .none (.tmp 5)), .none⟩,
   ⟨(.some 7), (.len .false (.tmp 6)), .none⟩,
   ⟨(.some 8), (.bin .add (.tmp 4) (.tmp 7)), .none⟩,
   ⟨(.some 2), (.mv (.tmp 8)), .none⟩]
def f32c : RCode := (.seq (.reg .false f32g0) (.seq (.reg .false f32g1) .ret))
def f32r : List RRes := [(.tmp 2)]
attribute [push_cast] f32g0 f32g1
def F32 (N : Nat) (p0 : Outbox) : Option Int := ck .i64 (p0.Base + (p0.Queue.length : Int)) (some ((p0.Base + (p0.Queue.length : Int))))
theorem c32 (N : Nat) (p0 : Outbox) (r : Int) (h : F32 N p0 = some r) : ACall Try.prog 32 [.agg [.D (.I .i64 p0.Base), .D (.I .i64 p0.Acked), .D (.S p0.Summary), .D (.L (p0.Queue.map rS))]] [] (.D (.I .i64 r)) [] [] := by
  refine ACall.of_bodyW [] (fn := Try.f32) (rc := f32c) (rs := f32r) Try.func32 rfl rfl (by kernel_rfl) (by kernel_rfl) (by kernel_rfl) (by rw [Try.ntmps32]; simp) ?_
  unfold F32 at h
  unfold f32c f32r
  rw [entry_eq _ _]
  obtain ⟨h24, h⟩ := F_ck h
  try simp (disch := first | assumption | (simp; done) | omega | (simp; omega)) only [push_cast, reduceCtorEq, Nat.reduceEqDiff, Nat.reduceAdd, Nat.reduceSub, Nat.reduceMul, Nat.reduceLeDiff, Nat.reduceLT, Int.reduceEq, Int.reduceNe, Int.reduceLT, Int.reduceLE, Int.reduceGT, Int.reduceGE, Int.reduceBEq, Int.reduceBNe, ↓reduceIte] at h24
  obtain rfl := Option.some.inj h
  simp (config := { maxSteps := 1000000 }) (disch := first | assumption | (simp; done) | omega | (simp; omega)) only [push_cast, reduceCtorEq, Nat.reduceEqDiff, Nat.reduceAdd, Nat.reduceSub, Nat.reduceMul, Nat.reduceLeDiff, Nat.reduceLT, Int.reduceEq, Int.reduceNe, Int.reduceLT, Int.reduceLE, Int.reduceGT, Int.reduceGE, Int.reduceBEq, Int.reduceBNe, ↓reduceIte, h24]
  refine e_ret (.inr rfl) ?_
  simp (config := { maxSteps := 1000000 }) (disch := first | assumption | (simp; done) | omega | (simp; omega)) only [push_cast, reduceCtorEq, Nat.reduceEqDiff, Nat.reduceAdd, Nat.reduceSub, Nat.reduceMul, Nat.reduceLeDiff, Nat.reduceLT, Int.reduceEq, Int.reduceNe, Int.reduceLT, Int.reduceLE, Int.reduceGT, Int.reduceGE, Int.reduceBEq, Int.reduceBNe, ↓reduceIte, aret, aresults, aresult, h24]
  refine ⟨_, rfl, ?_⟩
  first | (simp (config := { maxSteps := 1000000 }) (disch := first | assumption | (simp; done) | omega | (simp; omega)) only [push_cast, reduceCtorEq, Nat.reduceEqDiff, Nat.reduceAdd, Nat.reduceSub, Nat.reduceMul, Nat.reduceLeDiff, Nat.reduceLT, Int.reduceEq, Int.reduceNe, Int.reduceLT, Int.reduceLE, Int.reduceGT, Int.reduceGE, Int.reduceBEq, Int.reduceBNe, ↓reduceIte, h24] <;> rfl) | rfl

/-! ## 18 rivermark.link.ValidOut -/
def f18g0 : List RO :=
  [⟨(.some 1), (.box (.tmp 0)), .none⟩,
   ⟨(.some 2), (.mv (.const (.bool .false))), .none⟩]
def f18g1 : List RO :=
  [⟨(.some 4), (.faddr 3 (.tmp 1)), .none⟩,
   ⟨(.some 5), (.load .none (.tmp 4)), .none⟩,
   ⟨(.some 6), (.call (.func 37) [(.tmp 5), (.func 38)]), .none⟩,
   ⟨(.some 3), (.mv (.tmp 6)), .none⟩]
def f18g2 : List RO :=
  [⟨(.some 7), (.faddr 0 (.tmp 1)), .none⟩,
   ⟨(.some 8), (.load .none (.tmp 7)), .none⟩,
   ⟨(.some 9), (.call (.func 35) [(.tmp 8), (.const (.int .i64 1099511627776))]), .none⟩,
   ⟨(.some 10), (.mv (.tmp 9)), .none⟩,
   ⟨(.some 11), (.faddr 1 (.tmp 1)), (.some (10, .true))⟩,
   ⟨(.some 12), (.load .none (.tmp 11)), (.some (10, .true))⟩,
   ⟨(.some 13), (.load (.some 4) (.tmp 1)), (.some (10, .true))⟩,
   ⟨(.some 14), (.call (.func 32) [(.tmp 13)]), (.some (10, .true))⟩,
   ⟨(.some 15), (.mm .false (.const (.int .i64 1099511627776)) (.tmp 14)), (.some (10, .true))⟩,
   ⟨(.some 16), (.call (.func 35) [(.tmp 12), (.tmp 15)]), (.some (10, .true))⟩,
   ⟨(.some 17), (.pick (.tmp 10) (.tmp 16) (.const (.bool .false))), .none⟩,
   ⟨(.some 18), (.mv (.tmp 17)), .none⟩,
   ⟨(.some 19), (.faddr 3 (.tmp 1)), (.some (18, .true))⟩,
   ⟨(.some 20), (.load .none (.tmp 19)), (.some (18, .true))⟩,
   ⟨(.some 21), (.len .false (.tmp 20)), (.some (18, .true))⟩,
   ⟨(.some 22), (.bin .leq (.tmp 21) (.const (.int .i64 1000))), (.some (18, .true))⟩,
   ⟨(.some 23), (.pick (.tmp 18) (.tmp 22) (.const (.bool .false))), .none⟩,
   ⟨(.some 24), (.mv (.tmp 23)), .none⟩,
   ⟨(.some 25), (.faddr 2 (.tmp 1)), (.some (24, .true))⟩,
   ⟨(.some 26), (.load .none (.tmp 25)), (.some (24, .true))⟩,
   ⟨(.some 27), (.call (.func 31) [(.tmp 26)]), (.some (24, .true))⟩,
   ⟨(.some 28), (.pick (.tmp 24) (.tmp 27) (.const (.bool .false))), .none⟩,
   ⟨(.some 29), (.mv (.tmp 28)), .none⟩,
   ⟨(.some 30), (.mv (.tmp 3)), (.some (29, .true))⟩,
   ⟨(.some 31), (.un .not (.tmp 30)), (.some (29, .true))⟩,
   ⟨(.some 32), (.pick (.tmp 29) (.tmp 31) (.const (.bool .false))), .none⟩,
   ⟨(.some 2), (.mv (.tmp 32)), .none⟩]
def f18c : RCode := (.seq (.reg .false f18g0) (.seq (.reg .false f18g1) (.seq (.reg .true f18g2) .ret)))
def f18r : List RRes := [(.tmp 2)]
attribute [push_cast] f18g0 f18g1 f18g2
def F18 (N : Nat) (p0 : Outbox) : Option Bool := bd? (F37 N p0.Queue) fun v1 => bd? (F35 N p0.Base 1099511627776) fun v2 => if? (v2) (bd? (F32 N p0) fun v3 => bd? (F35 N p0.Acked (min 1099511627776 v3)) fun v4 => if? (v4) (if? (decide ((p0.Queue.length : Int) ≤ 1000)) (bd? (F31 N p0.Summary) fun v5 => if? (v5) (some (!(v1))) (some (false))) (some (false))) (some (false))) (some (false))
theorem c18 (N : Nat) (p0 : Outbox) (r : Bool) (h : F18 N p0 = some r) : ACall Try.prog 18 [.agg [.D (.I .i64 p0.Base), .D (.I .i64 p0.Acked), .D (.S p0.Summary), .D (.L (p0.Queue.map rS))]] [] (.D (.B r)) [] [] := by
  refine ACall.of_bodyW [] (fn := Try.f18) (rc := f18c) (rs := f18r) Try.func18 rfl rfl (by kernel_rfl) (by kernel_rfl) (by kernel_rfl) (by rw [Try.ntmps18]; simp) ?_
  unfold F18 at h
  unfold f18c f18r
  rw [entry_eq _ _]
  obtain ⟨v1, h34, h⟩ := F_bd h
  simp (config := { maxSteps := 1000000 }) (disch := first | assumption | (simp; done) | omega | (simp; omega)) only [push_cast, reduceCtorEq, Nat.reduceEqDiff, Nat.reduceAdd, Nat.reduceSub, Nat.reduceMul, Nat.reduceLeDiff, Nat.reduceLT, Int.reduceEq, Int.reduceNe, Int.reduceLT, Int.reduceLE, Int.reduceGT, Int.reduceGE, Int.reduceBEq, Int.reduceBNe, ↓reduceIte]
  refine call_flat (by rfl) (c37 N _ _ h34) ?_ rfl ?_
  · simp (config := { maxSteps := 1000000 }) (disch := first | assumption | (simp; done) | omega | (simp; omega)) only [push_cast, reduceCtorEq, Nat.reduceEqDiff, Nat.reduceAdd, Nat.reduceSub, Nat.reduceMul, Nat.reduceLeDiff, Nat.reduceLT, Int.reduceEq, Int.reduceNe, Int.reduceLT, Int.reduceLE, Int.reduceGT, Int.reduceGE, Int.reduceBEq, Int.reduceBNe, ↓reduceIte] <;> rfl
  obtain ⟨v2, h35, h⟩ := F_bd h
  simp (config := { maxSteps := 1000000 }) (disch := first | assumption | (simp; done) | omega | (simp; omega)) only [push_cast, reduceCtorEq, Nat.reduceEqDiff, Nat.reduceAdd, Nat.reduceSub, Nat.reduceMul, Nat.reduceLeDiff, Nat.reduceLT, Int.reduceEq, Int.reduceNe, Int.reduceLT, Int.reduceLE, Int.reduceGT, Int.reduceGE, Int.reduceBEq, Int.reduceBNe, ↓reduceIte]
  refine call_flat (by rfl) (c35 N _ _ _ h35) ?_ rfl ?_
  · simp (config := { maxSteps := 1000000 }) (disch := first | assumption | (simp; done) | omega | (simp; omega)) only [push_cast, reduceCtorEq, Nat.reduceEqDiff, Nat.reduceAdd, Nat.reduceSub, Nat.reduceMul, Nat.reduceLeDiff, Nat.reduceLT, Int.reduceEq, Int.reduceNe, Int.reduceLT, Int.reduceLE, Int.reduceGT, Int.reduceGE, Int.reduceBEq, Int.reduceBNe, ↓reduceIte] <;> rfl
  rcases F_if h with ⟨h36, h⟩ | ⟨h36, h⟩
  · try simp (disch := first | assumption | (simp; done) | omega | (simp; omega)) only [push_cast, reduceCtorEq, Nat.reduceEqDiff, Nat.reduceAdd, Nat.reduceSub, Nat.reduceMul, Nat.reduceLeDiff, Nat.reduceLT, Int.reduceEq, Int.reduceNe, Int.reduceLT, Int.reduceLE, Int.reduceGT, Int.reduceGE, Int.reduceBEq, Int.reduceBNe, ↓reduceIte] at h36
    obtain ⟨v3, h37, h⟩ := F_bd h
    simp (config := { maxSteps := 1000000 }) (disch := first | assumption | (simp; done) | omega | (simp; omega)) only [push_cast, reduceCtorEq, Nat.reduceEqDiff, Nat.reduceAdd, Nat.reduceSub, Nat.reduceMul, Nat.reduceLeDiff, Nat.reduceLT, Int.reduceEq, Int.reduceNe, Int.reduceLT, Int.reduceLE, Int.reduceGT, Int.reduceGE, Int.reduceBEq, Int.reduceBNe, ↓reduceIte, h36]
    refine call_flat (by rfl) (c32 N _ _ h37) ?_ rfl ?_
    · simp (config := { maxSteps := 1000000 }) (disch := first | assumption | (simp; done) | omega | (simp; omega)) only [push_cast, reduceCtorEq, Nat.reduceEqDiff, Nat.reduceAdd, Nat.reduceSub, Nat.reduceMul, Nat.reduceLeDiff, Nat.reduceLT, Int.reduceEq, Int.reduceNe, Int.reduceLT, Int.reduceLE, Int.reduceGT, Int.reduceGE, Int.reduceBEq, Int.reduceBNe, ↓reduceIte, h36] <;> rfl
    obtain ⟨v4, h38, h⟩ := F_bd h
    simp (config := { maxSteps := 1000000 }) (disch := first | assumption | (simp; done) | omega | (simp; omega)) only [push_cast, reduceCtorEq, Nat.reduceEqDiff, Nat.reduceAdd, Nat.reduceSub, Nat.reduceMul, Nat.reduceLeDiff, Nat.reduceLT, Int.reduceEq, Int.reduceNe, Int.reduceLT, Int.reduceLE, Int.reduceGT, Int.reduceGE, Int.reduceBEq, Int.reduceBNe, ↓reduceIte, h36]
    refine call_flat (by rfl) (c35 N _ _ _ h38) ?_ rfl ?_
    · simp (config := { maxSteps := 1000000 }) (disch := first | assumption | (simp; done) | omega | (simp; omega)) only [push_cast, reduceCtorEq, Nat.reduceEqDiff, Nat.reduceAdd, Nat.reduceSub, Nat.reduceMul, Nat.reduceLeDiff, Nat.reduceLT, Int.reduceEq, Int.reduceNe, Int.reduceLT, Int.reduceLE, Int.reduceGT, Int.reduceGE, Int.reduceBEq, Int.reduceBNe, ↓reduceIte, h36] <;> rfl
    rcases F_if h with ⟨h39, h⟩ | ⟨h39, h⟩
    · try simp (disch := first | assumption | (simp; done) | omega | (simp; omega)) only [push_cast, reduceCtorEq, Nat.reduceEqDiff, Nat.reduceAdd, Nat.reduceSub, Nat.reduceMul, Nat.reduceLeDiff, Nat.reduceLT, Int.reduceEq, Int.reduceNe, Int.reduceLT, Int.reduceLE, Int.reduceGT, Int.reduceGE, Int.reduceBEq, Int.reduceBNe, ↓reduceIte] at h39
      rcases F_if h with ⟨h40, h⟩ | ⟨h40, h⟩
      · try simp (disch := first | assumption | (simp; done) | omega | (simp; omega)) only [push_cast, reduceCtorEq, Nat.reduceEqDiff, Nat.reduceAdd, Nat.reduceSub, Nat.reduceMul, Nat.reduceLeDiff, Nat.reduceLT, Int.reduceEq, Int.reduceNe, Int.reduceLT, Int.reduceLE, Int.reduceGT, Int.reduceGE, Int.reduceBEq, Int.reduceBNe, ↓reduceIte] at h40
        obtain ⟨v5, h41, h⟩ := F_bd h
        simp (config := { maxSteps := 1000000 }) (disch := first | assumption | (simp; done) | omega | (simp; omega)) only [push_cast, reduceCtorEq, Nat.reduceEqDiff, Nat.reduceAdd, Nat.reduceSub, Nat.reduceMul, Nat.reduceLeDiff, Nat.reduceLT, Int.reduceEq, Int.reduceNe, Int.reduceLT, Int.reduceLE, Int.reduceGT, Int.reduceGE, Int.reduceBEq, Int.reduceBNe, ↓reduceIte, h36, h39, h40]
        refine call_flat (by rfl) (c31 N _ _ h41) ?_ rfl ?_
        · simp (config := { maxSteps := 1000000 }) (disch := first | assumption | (simp; done) | omega | (simp; omega)) only [push_cast, reduceCtorEq, Nat.reduceEqDiff, Nat.reduceAdd, Nat.reduceSub, Nat.reduceMul, Nat.reduceLeDiff, Nat.reduceLT, Int.reduceEq, Int.reduceNe, Int.reduceLT, Int.reduceLE, Int.reduceGT, Int.reduceGE, Int.reduceBEq, Int.reduceBNe, ↓reduceIte, h36, h39, h40] <;> rfl
        rcases F_if h with ⟨h42, h⟩ | ⟨h42, h⟩
        · try simp (disch := first | assumption | (simp; done) | omega | (simp; omega)) only [push_cast, reduceCtorEq, Nat.reduceEqDiff, Nat.reduceAdd, Nat.reduceSub, Nat.reduceMul, Nat.reduceLeDiff, Nat.reduceLT, Int.reduceEq, Int.reduceNe, Int.reduceLT, Int.reduceLE, Int.reduceGT, Int.reduceGE, Int.reduceBEq, Int.reduceBNe, ↓reduceIte] at h42
          obtain rfl := Option.some.inj h
          simp (config := { maxSteps := 1000000 }) (disch := first | assumption | (simp; done) | omega | (simp; omega)) only [push_cast, reduceCtorEq, Nat.reduceEqDiff, Nat.reduceAdd, Nat.reduceSub, Nat.reduceMul, Nat.reduceLeDiff, Nat.reduceLT, Int.reduceEq, Int.reduceNe, Int.reduceLT, Int.reduceLE, Int.reduceGT, Int.reduceGE, Int.reduceBEq, Int.reduceBNe, ↓reduceIte, h36, h39, h40, h42]
          refine e_ret (.inr rfl) ?_
          simp (config := { maxSteps := 1000000 }) (disch := first | assumption | (simp; done) | omega | (simp; omega)) only [push_cast, reduceCtorEq, Nat.reduceEqDiff, Nat.reduceAdd, Nat.reduceSub, Nat.reduceMul, Nat.reduceLeDiff, Nat.reduceLT, Int.reduceEq, Int.reduceNe, Int.reduceLT, Int.reduceLE, Int.reduceGT, Int.reduceGE, Int.reduceBEq, Int.reduceBNe, ↓reduceIte, aret, aresults, aresult, h36, h39, h40, h42]
          refine ⟨_, rfl, ?_⟩
          first | (simp (config := { maxSteps := 1000000 }) (disch := first | assumption | (simp; done) | omega | (simp; omega)) only [push_cast, reduceCtorEq, Nat.reduceEqDiff, Nat.reduceAdd, Nat.reduceSub, Nat.reduceMul, Nat.reduceLeDiff, Nat.reduceLT, Int.reduceEq, Int.reduceNe, Int.reduceLT, Int.reduceLE, Int.reduceGT, Int.reduceGE, Int.reduceBEq, Int.reduceBNe, ↓reduceIte, h36, h39, h40, h42] <;> rfl) | rfl
        · try simp (disch := first | assumption | (simp; done) | omega | (simp; omega)) only [push_cast, reduceCtorEq, Nat.reduceEqDiff, Nat.reduceAdd, Nat.reduceSub, Nat.reduceMul, Nat.reduceLeDiff, Nat.reduceLT, Int.reduceEq, Int.reduceNe, Int.reduceLT, Int.reduceLE, Int.reduceGT, Int.reduceGE, Int.reduceBEq, Int.reduceBNe, ↓reduceIte] at h42
          obtain rfl := Option.some.inj h
          simp (config := { maxSteps := 1000000 }) (disch := first | assumption | (simp; done) | omega | (simp; omega)) only [push_cast, reduceCtorEq, Nat.reduceEqDiff, Nat.reduceAdd, Nat.reduceSub, Nat.reduceMul, Nat.reduceLeDiff, Nat.reduceLT, Int.reduceEq, Int.reduceNe, Int.reduceLT, Int.reduceLE, Int.reduceGT, Int.reduceGE, Int.reduceBEq, Int.reduceBNe, ↓reduceIte, h36, h39, h40, h42]
          refine e_ret (.inr rfl) ?_
          simp (config := { maxSteps := 1000000 }) (disch := first | assumption | (simp; done) | omega | (simp; omega)) only [push_cast, reduceCtorEq, Nat.reduceEqDiff, Nat.reduceAdd, Nat.reduceSub, Nat.reduceMul, Nat.reduceLeDiff, Nat.reduceLT, Int.reduceEq, Int.reduceNe, Int.reduceLT, Int.reduceLE, Int.reduceGT, Int.reduceGE, Int.reduceBEq, Int.reduceBNe, ↓reduceIte, aret, aresults, aresult, h36, h39, h40, h42]
          refine ⟨_, rfl, ?_⟩
          first | (simp (config := { maxSteps := 1000000 }) (disch := first | assumption | (simp; done) | omega | (simp; omega)) only [push_cast, reduceCtorEq, Nat.reduceEqDiff, Nat.reduceAdd, Nat.reduceSub, Nat.reduceMul, Nat.reduceLeDiff, Nat.reduceLT, Int.reduceEq, Int.reduceNe, Int.reduceLT, Int.reduceLE, Int.reduceGT, Int.reduceGE, Int.reduceBEq, Int.reduceBNe, ↓reduceIte, h36, h39, h40, h42] <;> rfl) | rfl
      · try simp (disch := first | assumption | (simp; done) | omega | (simp; omega)) only [push_cast, reduceCtorEq, Nat.reduceEqDiff, Nat.reduceAdd, Nat.reduceSub, Nat.reduceMul, Nat.reduceLeDiff, Nat.reduceLT, Int.reduceEq, Int.reduceNe, Int.reduceLT, Int.reduceLE, Int.reduceGT, Int.reduceGE, Int.reduceBEq, Int.reduceBNe, ↓reduceIte] at h40
        obtain rfl := Option.some.inj h
        simp (config := { maxSteps := 1000000 }) (disch := first | assumption | (simp; done) | omega | (simp; omega)) only [push_cast, reduceCtorEq, Nat.reduceEqDiff, Nat.reduceAdd, Nat.reduceSub, Nat.reduceMul, Nat.reduceLeDiff, Nat.reduceLT, Int.reduceEq, Int.reduceNe, Int.reduceLT, Int.reduceLE, Int.reduceGT, Int.reduceGE, Int.reduceBEq, Int.reduceBNe, ↓reduceIte, h36, h39, h40]
        refine e_ret (.inr rfl) ?_
        simp (config := { maxSteps := 1000000 }) (disch := first | assumption | (simp; done) | omega | (simp; omega)) only [push_cast, reduceCtorEq, Nat.reduceEqDiff, Nat.reduceAdd, Nat.reduceSub, Nat.reduceMul, Nat.reduceLeDiff, Nat.reduceLT, Int.reduceEq, Int.reduceNe, Int.reduceLT, Int.reduceLE, Int.reduceGT, Int.reduceGE, Int.reduceBEq, Int.reduceBNe, ↓reduceIte, aret, aresults, aresult, h36, h39, h40]
        refine ⟨_, rfl, ?_⟩
        first | (simp (config := { maxSteps := 1000000 }) (disch := first | assumption | (simp; done) | omega | (simp; omega)) only [push_cast, reduceCtorEq, Nat.reduceEqDiff, Nat.reduceAdd, Nat.reduceSub, Nat.reduceMul, Nat.reduceLeDiff, Nat.reduceLT, Int.reduceEq, Int.reduceNe, Int.reduceLT, Int.reduceLE, Int.reduceGT, Int.reduceGE, Int.reduceBEq, Int.reduceBNe, ↓reduceIte, h36, h39, h40] <;> rfl) | rfl
    · try simp (disch := first | assumption | (simp; done) | omega | (simp; omega)) only [push_cast, reduceCtorEq, Nat.reduceEqDiff, Nat.reduceAdd, Nat.reduceSub, Nat.reduceMul, Nat.reduceLeDiff, Nat.reduceLT, Int.reduceEq, Int.reduceNe, Int.reduceLT, Int.reduceLE, Int.reduceGT, Int.reduceGE, Int.reduceBEq, Int.reduceBNe, ↓reduceIte] at h39
      obtain rfl := Option.some.inj h
      simp (config := { maxSteps := 1000000 }) (disch := first | assumption | (simp; done) | omega | (simp; omega)) only [push_cast, reduceCtorEq, Nat.reduceEqDiff, Nat.reduceAdd, Nat.reduceSub, Nat.reduceMul, Nat.reduceLeDiff, Nat.reduceLT, Int.reduceEq, Int.reduceNe, Int.reduceLT, Int.reduceLE, Int.reduceGT, Int.reduceGE, Int.reduceBEq, Int.reduceBNe, ↓reduceIte, h36, h39]
      refine e_ret (.inr rfl) ?_
      simp (config := { maxSteps := 1000000 }) (disch := first | assumption | (simp; done) | omega | (simp; omega)) only [push_cast, reduceCtorEq, Nat.reduceEqDiff, Nat.reduceAdd, Nat.reduceSub, Nat.reduceMul, Nat.reduceLeDiff, Nat.reduceLT, Int.reduceEq, Int.reduceNe, Int.reduceLT, Int.reduceLE, Int.reduceGT, Int.reduceGE, Int.reduceBEq, Int.reduceBNe, ↓reduceIte, aret, aresults, aresult, h36, h39]
      refine ⟨_, rfl, ?_⟩
      first | (simp (config := { maxSteps := 1000000 }) (disch := first | assumption | (simp; done) | omega | (simp; omega)) only [push_cast, reduceCtorEq, Nat.reduceEqDiff, Nat.reduceAdd, Nat.reduceSub, Nat.reduceMul, Nat.reduceLeDiff, Nat.reduceLT, Int.reduceEq, Int.reduceNe, Int.reduceLT, Int.reduceLE, Int.reduceGT, Int.reduceGE, Int.reduceBEq, Int.reduceBNe, ↓reduceIte, h36, h39] <;> rfl) | rfl
  · try simp (disch := first | assumption | (simp; done) | omega | (simp; omega)) only [push_cast, reduceCtorEq, Nat.reduceEqDiff, Nat.reduceAdd, Nat.reduceSub, Nat.reduceMul, Nat.reduceLeDiff, Nat.reduceLT, Int.reduceEq, Int.reduceNe, Int.reduceLT, Int.reduceLE, Int.reduceGT, Int.reduceGE, Int.reduceBEq, Int.reduceBNe, ↓reduceIte] at h36
    obtain rfl := Option.some.inj h
    simp (config := { maxSteps := 1000000 }) (disch := first | assumption | (simp; done) | omega | (simp; omega)) only [push_cast, reduceCtorEq, Nat.reduceEqDiff, Nat.reduceAdd, Nat.reduceSub, Nat.reduceMul, Nat.reduceLeDiff, Nat.reduceLT, Int.reduceEq, Int.reduceNe, Int.reduceLT, Int.reduceLE, Int.reduceGT, Int.reduceGE, Int.reduceBEq, Int.reduceBNe, ↓reduceIte, h36]
    refine e_ret (.inr rfl) ?_
    simp (config := { maxSteps := 1000000 }) (disch := first | assumption | (simp; done) | omega | (simp; omega)) only [push_cast, reduceCtorEq, Nat.reduceEqDiff, Nat.reduceAdd, Nat.reduceSub, Nat.reduceMul, Nat.reduceLeDiff, Nat.reduceLT, Int.reduceEq, Int.reduceNe, Int.reduceLT, Int.reduceLE, Int.reduceGT, Int.reduceGE, Int.reduceBEq, Int.reduceBNe, ↓reduceIte, aret, aresults, aresult, h36]
    refine ⟨_, rfl, ?_⟩
    first | (simp (config := { maxSteps := 1000000 }) (disch := first | assumption | (simp; done) | omega | (simp; omega)) only [push_cast, reduceCtorEq, Nat.reduceEqDiff, Nat.reduceAdd, Nat.reduceSub, Nat.reduceMul, Nat.reduceLeDiff, Nat.reduceLT, Int.reduceEq, Int.reduceNe, Int.reduceLT, Int.reduceLE, Int.reduceGT, Int.reduceGE, Int.reduceBEq, Int.reduceBNe, ↓reduceIte, h36] <;> rfl) | rfl

/-! ## 33 slices.Clone[[]string,string] -/
def f33g0 : List RO :=
  [⟨(.some 2), (.mv (.const (.slice .none 0 0))), .none⟩]
def f33g1 : List RO :=
  [⟨(.some 3), (.mv (.tmp 0)), .none⟩,
   ⟨(.some 4), (.isnil .false (.tmp 3)), .none⟩]
def f33g2 : List RO :=
  [⟨(.some 2), (.mv (.const (.slice .none 0 0))), .none⟩]
def f33g3 : List RO :=
  [⟨(.some 5), (.bslice 1 []), .none⟩,
   ⟨(.some 6), (.mv (.tmp 0)), .none⟩,
   ⟨(.some 7), (.app 1 16 (.tmp 5) (.tmp 6)), .none⟩,
   ⟨(.some 2), (.mv (.tmp 7)), .none⟩]
def f33c : RCode := (.seq (.reg .false f33g0) (.seq (.seq (.reg .false f33g1) (.cond (.tmp 4) (.seq (.reg .false f33g2) .ret) .skip)) (.seq (.reg .false f33g3) .ret)))
def f33r : List RRes := [(.tmp 2)]
attribute [push_cast] f33g0 f33g1 f33g2 f33g3
def F33 (N : Nat) (p0 : (List Str)) : Option (List Str) := if? p0.isEmpty (some ([])) (gd? (p0.length * 16 ≤ 140737488355328) (some (p0)))
theorem c33 (N : Nat) (p0 : (List Str)) (r : (List Str)) (h : F33 N p0 = some r) : ACall Try.prog 33 [.D (.L (p0.map rS))] [] (.sl (.O 0) 1 0 r.length) [] [.row true 1 (r.map rS)] := by
  refine ACall.of_bodyW [] (fn := Try.f33) (rc := f33c) (rs := f33r) Try.func33 rfl rfl (by kernel_rfl) (by kernel_rfl) (by kernel_rfl) (by rw [Try.ntmps33]; simp) ?_
  unfold F33 at h
  unfold f33c f33r
  rw [entry_eq _ _]
  rcases F_if h with ⟨h48, h⟩ | ⟨h48, h⟩
  · have h49 := List.isEmpty_iff.1 h48
    simp (config := { maxSteps := 1000000 }) (disch := first | assumption | (simp; done) | omega | (simp; omega)) only [push_cast, reduceCtorEq, Nat.reduceEqDiff, Nat.reduceAdd, Nat.reduceSub, Nat.reduceMul, Nat.reduceLeDiff, Nat.reduceLT, Int.reduceEq, Int.reduceNe, Int.reduceLT, Int.reduceLE, Int.reduceGT, Int.reduceGE, Int.reduceBEq, Int.reduceBNe, ↓reduceIte, h49]
    refine cd_ab ?_ ?_
    · obtain rfl := Option.some.inj h
      simp (config := { maxSteps := 1000000 }) (disch := first | assumption | (simp; done) | omega | (simp; omega)) only [push_cast, reduceCtorEq, Nat.reduceEqDiff, Nat.reduceAdd, Nat.reduceSub, Nat.reduceMul, Nat.reduceLeDiff, Nat.reduceLT, Int.reduceEq, Int.reduceNe, Int.reduceLT, Int.reduceLE, Int.reduceGT, Int.reduceGE, Int.reduceBEq, Int.reduceBNe, ↓reduceIte, h49]
      refine end_own0 2 1 rfl ?_
      simp (config := { maxSteps := 1000000 }) (disch := first | assumption | (simp; done) | omega | (simp; omega)) only [push_cast, reduceCtorEq, Nat.reduceEqDiff, Nat.reduceAdd, Nat.reduceSub, Nat.reduceMul, Nat.reduceLeDiff, Nat.reduceLT, Int.reduceEq, Int.reduceNe, Int.reduceLT, Int.reduceLE, Int.reduceGT, Int.reduceGE, Int.reduceBEq, Int.reduceBNe, ↓reduceIte, h49]
      refine AEndW.of [0] (.inr rfl) (by decide) rfl ?_ rfl ?_
      · simp (config := { maxSteps := 1000000 }) (disch := first | assumption | (simp; done) | omega | (simp; omega)) only [push_cast, reduceCtorEq, Nat.reduceEqDiff, Nat.reduceAdd, Nat.reduceSub, Nat.reduceMul, Nat.reduceLeDiff, Nat.reduceLT, Int.reduceEq, Int.reduceNe, Int.reduceLT, Int.reduceLE, Int.reduceGT, Int.reduceGE, Int.reduceBEq, Int.reduceBNe, ↓reduceIte, h49] <;> rfl
      · simp (config := { maxSteps := 1000000 }) (disch := first | assumption | (simp; done) | omega | (simp; omega)) only [push_cast, reduceCtorEq, Nat.reduceEqDiff, Nat.reduceAdd, Nat.reduceSub, Nat.reduceMul, Nat.reduceLeDiff, Nat.reduceLT, Int.reduceEq, Int.reduceNe, Int.reduceLT, Int.reduceLE, Int.reduceGT, Int.reduceGE, Int.reduceBEq, Int.reduceBNe, ↓reduceIte, h49] <;> rfl
    · obtain rfl := Option.some.inj h
      simp (config := { maxSteps := 1000000 }) (disch := first | assumption | (simp; done) | omega | (simp; omega)) only [push_cast, reduceCtorEq, Nat.reduceEqDiff, Nat.reduceAdd, Nat.reduceSub, Nat.reduceMul, Nat.reduceLeDiff, Nat.reduceLT, Int.reduceEq, Int.reduceNe, Int.reduceLT, Int.reduceLE, Int.reduceGT, Int.reduceGE, Int.reduceBEq, Int.reduceBNe, ↓reduceIte, h49]
      refine AEndW.of [0] (.inr rfl) (by decide) rfl ?_ rfl ?_
      · simp (config := { maxSteps := 1000000 }) (disch := first | assumption | (simp; done) | omega | (simp; omega)) only [push_cast, reduceCtorEq, Nat.reduceEqDiff, Nat.reduceAdd, Nat.reduceSub, Nat.reduceMul, Nat.reduceLeDiff, Nat.reduceLT, Int.reduceEq, Int.reduceNe, Int.reduceLT, Int.reduceLE, Int.reduceGT, Int.reduceGE, Int.reduceBEq, Int.reduceBNe, ↓reduceIte, h49] <;> rfl
      · simp (config := { maxSteps := 1000000 }) (disch := first | assumption | (simp; done) | omega | (simp; omega)) only [push_cast, reduceCtorEq, Nat.reduceEqDiff, Nat.reduceAdd, Nat.reduceSub, Nat.reduceMul, Nat.reduceLeDiff, Nat.reduceLT, Int.reduceEq, Int.reduceNe, Int.reduceLT, Int.reduceLE, Int.reduceGT, Int.reduceGE, Int.reduceBEq, Int.reduceBNe, ↓reduceIte, h49] <;> rfl
  · have h49 := isEmpty_no h48
    have h50 := map_no rS h49
    try simp (disch := first | assumption | (simp; done) | omega | (simp; omega)) only [push_cast, reduceCtorEq, Nat.reduceEqDiff, Nat.reduceAdd, Nat.reduceSub, Nat.reduceMul, Nat.reduceLeDiff, Nat.reduceLT, Int.reduceEq, Int.reduceNe, Int.reduceLT, Int.reduceLE, Int.reduceGT, Int.reduceGE, Int.reduceBEq, Int.reduceBNe, ↓reduceIte] at h50
    have h51 := len_no h49
    obtain ⟨h52, h⟩ := F_gd h
    try simp (disch := first | assumption | (simp; done) | omega | (simp; omega)) only [push_cast, reduceCtorEq, Nat.reduceEqDiff, Nat.reduceAdd, Nat.reduceSub, Nat.reduceMul, Nat.reduceLeDiff, Nat.reduceLT, Int.reduceEq, Int.reduceNe, Int.reduceLT, Int.reduceLE, Int.reduceGT, Int.reduceGE, Int.reduceBEq, Int.reduceBNe, ↓reduceIte] at h52
    obtain rfl := Option.some.inj h
    simp (config := { maxSteps := 1000000 }) (disch := first | assumption | (simp; done) | omega | (simp; omega)) only [push_cast, reduceCtorEq, Nat.reduceEqDiff, Nat.reduceAdd, Nat.reduceSub, Nat.reduceMul, Nat.reduceLeDiff, Nat.reduceLT, Int.reduceEq, Int.reduceNe, Int.reduceLT, Int.reduceLE, Int.reduceGT, Int.reduceGE, Int.reduceBEq, Int.reduceBNe, ↓reduceIte, h52]
    refine AEndW.of [0] (.inr rfl) (by decide) rfl ?_ rfl ?_
    · simp (config := { maxSteps := 1000000 }) (disch := first | assumption | (simp; done) | omega | (simp; omega)) only [push_cast, reduceCtorEq, Nat.reduceEqDiff, Nat.reduceAdd, Nat.reduceSub, Nat.reduceMul, Nat.reduceLeDiff, Nat.reduceLT, Int.reduceEq, Int.reduceNe, Int.reduceLT, Int.reduceLE, Int.reduceGT, Int.reduceGE, Int.reduceBEq, Int.reduceBNe, ↓reduceIte, h52] <;> rfl
    · simp (config := { maxSteps := 1000000 }) (disch := first | assumption | (simp; done) | omega | (simp; omega)) only [push_cast, reduceCtorEq, Nat.reduceEqDiff, Nat.reduceAdd, Nat.reduceSub, Nat.reduceMul, Nat.reduceLeDiff, Nat.reduceLT, Int.reduceEq, Int.reduceNe, Int.reduceLT, Int.reduceLE, Int.reduceGT, Int.reduceGE, Int.reduceBEq, Int.reduceBNe, ↓reduceIte, h52] <;> rfl

/-! ## 10 rivermark.link.Put -/
def f10g0 : List RO :=
  [⟨(.some 2), (.box (.tmp 0)), .none⟩,
   ⟨(.some 4), (.new [(.D (.I .i64 0)), (.D (.I .i64 0)), (.D (.S [])), (.fl [])]), .none⟩,
   ⟨(.some 5), (.mv (.const (.int .i64 0))), .none⟩]
def f10g1 : List RO :=
  [⟨(.some 7), (.load (.some 4) (.tmp 2)), .none⟩,
   ⟨(.some 8), (.call (.func 18) [(.tmp 7)]), .none⟩,
   ⟨(.some 9), (.un .not (.tmp 8)), .none⟩,
   ⟨(.some 6), (.mv (.tmp 9)), .none⟩]
def f10g2 : List RO :=
  [⟨(.some 10), (.mv (.tmp 1)), .none⟩,
   ⟨(.some 11), (.call (.func 31) [(.tmp 10)]), .none⟩,
   ⟨(.some 12), (.un .not (.tmp 11)), .none⟩,
   ⟨(.some 6), (.mv (.tmp 12)), .none⟩]
def f10g3 : List RO :=
  [⟨(.some 13), (.build [(.D (.I .i64 0)), (.D (.I .i64 0)), (.D (.S [])), (.fl [])] []), .none⟩,
   ⟨.none, (.store 4 (.tmp 4) (.tmp 13)), .none⟩,
   ⟨(.some 5), (.mv (.const (.int .i64 1))), .none⟩]
def f10g4 : List RO :=
  [⟨(.some 15), (.faddr 3 (.tmp 2)), .none⟩,
   ⟨(.some 16), (.load .none (.tmp 15)), .none⟩,
   ⟨(.some 17), (.len .false (.tmp 16)), .none⟩,
   ⟨(.some 18), (.bin .eql (.tmp 17) (.const (.int .i64 1000))), .none⟩,
   ⟨(.some 14), (.mv (.tmp 18)), .none⟩]
def f10g5 : List RO :=
  [⟨(.some 19), (.load (.some 4) (.tmp 2)), .none⟩,
   ⟨(.some 20), (.call (.func 32) [(.tmp 19)]), .none⟩,
   ⟨(.some 21), (.bin .geq (.tmp 20) (.const (.int .i64 1099511627776))), .none⟩,
   ⟨(.some 14), (.mv (.tmp 21)), .none⟩]
def f10g6 : List RO :=
  [⟨(.some 22), (.build [(.D (.I .i64 0)), (.D (.I .i64 0)), (.D (.S [])), (.fl [])] []), .none⟩,
   ⟨.none, (.store 4 (.tmp 4) (.tmp 22)), .none⟩,
   ⟨(.some 5), (.mv (.const (.int .i64 2))), .none⟩]
def f10g7 : List RO :=
  [⟨(.some 23), (.faddr 3 (.tmp 2)), .none⟩,
   ⟨(.some 24), (.load .none (.tmp 23)), .none⟩,
   ⟨(.some 25), (.call (.func 33) [(.tmp 24)]), .none⟩,
   ⟨(.some 26), (.mv (.tmp 1)), .none⟩,
   ⟨(.some 27), (.bslice 1 [(.tmp 26)]), .none⟩,
   ⟨(.some 28), (.appE 1 16 (.tmp 25) (.tmp 27)), .none⟩,
   ⟨(.some 29), (.faddr 3 (.tmp 2)), .none⟩,
   ⟨.none, (.store 1 (.tmp 29) (.tmp 28)), .none⟩]
def f10g8 : List RO :=
  [⟨(.some 30), (.load (.some 4) (.tmp 2)), .none⟩,
   ⟨.none, (.store 4 (.tmp 4) (.tmp 30)), .none⟩,
   ⟨(.some 5), (.mv (.const (.int .i64 0))), .none⟩]
def f10c : RCode := (.seq (.reg .false f10g0) (.seq (.block 0 (.seq (.seq (.reg .false f10g1) (.cond (.tmp 6) .skip (.reg .false f10g2))) (.cond (.tmp 6) (.seq (.reg .false f10g3) .ret) (.seq (.seq (.reg .false f10g4) (.cond (.tmp 14) .skip (.reg .false f10g5))) (.cond (.tmp 14) (.seq (.reg .false f10g6) .ret) .skip))))) (.seq (.reg .false f10g7) (.seq (.reg .false f10g8) .ret))))
def f10r : List RRes := [(.cell (.some 4) 4), (.tmp 5)]
attribute [push_cast] f10g0 f10g1 f10g2 f10g3 f10g4 f10g5 f10g6 f10g7 f10g8
def F10 (N : Nat) (p0 : Outbox) (p1 : Str) : Option (Outbox × Int) := bd? (F18 N p0) fun v1 => if? (v1) (bd? (F31 N p1) fun v2 => if? (v2) (if? (((p0.Queue.length : Int) == 1000)) (some ((Outbox.mk 0 0 ([] : Str) []), 2)) (bd? (F32 N p0) fun v3 => if? (decide (v3 ≥ 1099511627776)) (some ((Outbox.mk 0 0 ([] : Str) []), 2)) (bd? (F33 N p0.Queue) fun v4 => gd? ((v4.length + [p1].length) * 16 ≤ 140737488355328) (some ((Outbox.mk p0.Base p0.Acked p0.Summary (v4 ++ [p1])), 0))))) (some ((Outbox.mk 0 0 ([] : Str) []), 1))) (some ((Outbox.mk 0 0 ([] : Str) []), 1))
theorem c10 (N : Nat) (p0 : Outbox) (p1 : Str) (r : (Outbox × Int)) (h : F10 N p0 p1 = some r) : ACall Try.prog 10 [.agg [.D (.I .i64 p0.Base), .D (.I .i64 p0.Acked), .D (.S p0.Summary), .D (.L (p0.Queue.map rS))], .D (.S p1)] [] (.tup [.agg [.D (.I .i64 r.1.Base), .D (.I .i64 r.1.Acked), .D (.S r.1.Summary), .D (.L (r.1.Queue.map rS))], .D (.I .i64 r.2)]) [] [] := by
  refine ACall.of_bodyW [28] (fn := Try.f10) (rc := f10c) (rs := f10r) Try.func10 rfl rfl (by kernel_rfl) (by kernel_rfl) (by kernel_rfl) (by rw [Try.ntmps10]; simp) ?_
  unfold F10 at h
  unfold f10c f10r
  rw [entry_eq _ _]
  obtain ⟨v1, h62, h⟩ := F_bd h
  simp (config := { maxSteps := 1000000 }) (disch := first | assumption | (simp; done) | omega | (simp; omega)) only [push_cast, reduceCtorEq, Nat.reduceEqDiff, Nat.reduceAdd, Nat.reduceSub, Nat.reduceMul, Nat.reduceLeDiff, Nat.reduceLT, Int.reduceEq, Int.reduceNe, Int.reduceLT, Int.reduceLE, Int.reduceGT, Int.reduceGE, Int.reduceBEq, Int.reduceBNe, ↓reduceIte]
  refine call_flat (by rfl) (c18 N _ _ h62) ?_ rfl ?_
  · simp (config := { maxSteps := 1000000 }) (disch := first | assumption | (simp; done) | omega | (simp; omega)) only [push_cast, reduceCtorEq, Nat.reduceEqDiff, Nat.reduceAdd, Nat.reduceSub, Nat.reduceMul, Nat.reduceLeDiff, Nat.reduceLT, Int.reduceEq, Int.reduceNe, Int.reduceLT, Int.reduceLE, Int.reduceGT, Int.reduceGE, Int.reduceBEq, Int.reduceBNe, ↓reduceIte] <;> rfl
  rcases F_if h with ⟨h63, h⟩ | ⟨h63, h⟩
  · try simp (disch := first | assumption | (simp; done) | omega | (simp; omega)) only [push_cast, reduceCtorEq, Nat.reduceEqDiff, Nat.reduceAdd, Nat.reduceSub, Nat.reduceMul, Nat.reduceLeDiff, Nat.reduceLT, Int.reduceEq, Int.reduceNe, Int.reduceLT, Int.reduceLE, Int.reduceGT, Int.reduceGE, Int.reduceBEq, Int.reduceBNe, ↓reduceIte] at h63
    obtain ⟨v2, h64, h⟩ := F_bd h
    simp (config := { maxSteps := 1000000 }) (disch := first | assumption | (simp; done) | omega | (simp; omega)) only [push_cast, reduceCtorEq, Nat.reduceEqDiff, Nat.reduceAdd, Nat.reduceSub, Nat.reduceMul, Nat.reduceLeDiff, Nat.reduceLT, Int.reduceEq, Int.reduceNe, Int.reduceLT, Int.reduceLE, Int.reduceGT, Int.reduceGE, Int.reduceBEq, Int.reduceBNe, ↓reduceIte, h63]
    refine call_flat (by rfl) (c31 N _ _ h64) ?_ rfl ?_
    · simp (config := { maxSteps := 1000000 }) (disch := first | assumption | (simp; done) | omega | (simp; omega)) only [push_cast, reduceCtorEq, Nat.reduceEqDiff, Nat.reduceAdd, Nat.reduceSub, Nat.reduceMul, Nat.reduceLeDiff, Nat.reduceLT, Int.reduceEq, Int.reduceNe, Int.reduceLT, Int.reduceLE, Int.reduceGT, Int.reduceGE, Int.reduceBEq, Int.reduceBNe, ↓reduceIte, h63] <;> rfl
    rcases F_if h with ⟨h65, h⟩ | ⟨h65, h⟩
    · try simp (disch := first | assumption | (simp; done) | omega | (simp; omega)) only [push_cast, reduceCtorEq, Nat.reduceEqDiff, Nat.reduceAdd, Nat.reduceSub, Nat.reduceMul, Nat.reduceLeDiff, Nat.reduceLT, Int.reduceEq, Int.reduceNe, Int.reduceLT, Int.reduceLE, Int.reduceGT, Int.reduceGE, Int.reduceBEq, Int.reduceBNe, ↓reduceIte] at h65
      rcases F_if h with ⟨h66, h⟩ | ⟨h66, h⟩
      · try simp (disch := first | assumption | (simp; done) | omega | (simp; omega)) only [push_cast, reduceCtorEq, Nat.reduceEqDiff, Nat.reduceAdd, Nat.reduceSub, Nat.reduceMul, Nat.reduceLeDiff, Nat.reduceLT, Int.reduceEq, Int.reduceNe, Int.reduceLT, Int.reduceLE, Int.reduceGT, Int.reduceGE, Int.reduceBEq, Int.reduceBNe, ↓reduceIte] at h66
        obtain rfl := Option.some.inj h
        simp (config := { maxSteps := 1000000 }) (disch := first | assumption | (simp; done) | omega | (simp; omega)) only [push_cast, reduceCtorEq, Nat.reduceEqDiff, Nat.reduceAdd, Nat.reduceSub, Nat.reduceMul, Nat.reduceLeDiff, Nat.reduceLT, Int.reduceEq, Int.reduceNe, Int.reduceLT, Int.reduceLE, Int.reduceGT, Int.reduceGE, Int.reduceBEq, Int.reduceBNe, ↓reduceIte, h63, h65, h66]
        refine e_ret (.inr rfl) ?_
        simp (config := { maxSteps := 1000000 }) (disch := first | assumption | (simp; done) | omega | (simp; omega)) only [push_cast, reduceCtorEq, Nat.reduceEqDiff, Nat.reduceAdd, Nat.reduceSub, Nat.reduceMul, Nat.reduceLeDiff, Nat.reduceLT, Int.reduceEq, Int.reduceNe, Int.reduceLT, Int.reduceLE, Int.reduceGT, Int.reduceGE, Int.reduceBEq, Int.reduceBNe, ↓reduceIte, aret, aresults, aresult, h63, h65, h66]
        refine ⟨_, rfl, ?_⟩
        first | (simp (config := { maxSteps := 1000000 }) (disch := first | assumption | (simp; done) | omega | (simp; omega)) only [push_cast, reduceCtorEq, Nat.reduceEqDiff, Nat.reduceAdd, Nat.reduceSub, Nat.reduceMul, Nat.reduceLeDiff, Nat.reduceLT, Int.reduceEq, Int.reduceNe, Int.reduceLT, Int.reduceLE, Int.reduceGT, Int.reduceGE, Int.reduceBEq, Int.reduceBNe, ↓reduceIte, h63, h65, h66] <;> rfl) | rfl
      · try simp (disch := first | assumption | (simp; done) | omega | (simp; omega)) only [push_cast, reduceCtorEq, Nat.reduceEqDiff, Nat.reduceAdd, Nat.reduceSub, Nat.reduceMul, Nat.reduceLeDiff, Nat.reduceLT, Int.reduceEq, Int.reduceNe, Int.reduceLT, Int.reduceLE, Int.reduceGT, Int.reduceGE, Int.reduceBEq, Int.reduceBNe, ↓reduceIte] at h66
        obtain ⟨v3, h67, h⟩ := F_bd h
        simp (config := { maxSteps := 1000000 }) (disch := first | assumption | (simp; done) | omega | (simp; omega)) only [push_cast, reduceCtorEq, Nat.reduceEqDiff, Nat.reduceAdd, Nat.reduceSub, Nat.reduceMul, Nat.reduceLeDiff, Nat.reduceLT, Int.reduceEq, Int.reduceNe, Int.reduceLT, Int.reduceLE, Int.reduceGT, Int.reduceGE, Int.reduceBEq, Int.reduceBNe, ↓reduceIte, h63, h65, h66]
        refine call_flat (by rfl) (c32 N _ _ h67) ?_ rfl ?_
        · simp (config := { maxSteps := 1000000 }) (disch := first | assumption | (simp; done) | omega | (simp; omega)) only [push_cast, reduceCtorEq, Nat.reduceEqDiff, Nat.reduceAdd, Nat.reduceSub, Nat.reduceMul, Nat.reduceLeDiff, Nat.reduceLT, Int.reduceEq, Int.reduceNe, Int.reduceLT, Int.reduceLE, Int.reduceGT, Int.reduceGE, Int.reduceBEq, Int.reduceBNe, ↓reduceIte, h63, h65, h66] <;> rfl
        rcases F_if h with ⟨h68, h⟩ | ⟨h68, h⟩
        · try simp (disch := first | assumption | (simp; done) | omega | (simp; omega)) only [push_cast, reduceCtorEq, Nat.reduceEqDiff, Nat.reduceAdd, Nat.reduceSub, Nat.reduceMul, Nat.reduceLeDiff, Nat.reduceLT, Int.reduceEq, Int.reduceNe, Int.reduceLT, Int.reduceLE, Int.reduceGT, Int.reduceGE, Int.reduceBEq, Int.reduceBNe, ↓reduceIte] at h68
          obtain rfl := Option.some.inj h
          simp (config := { maxSteps := 1000000 }) (disch := first | assumption | (simp; done) | omega | (simp; omega)) only [push_cast, reduceCtorEq, Nat.reduceEqDiff, Nat.reduceAdd, Nat.reduceSub, Nat.reduceMul, Nat.reduceLeDiff, Nat.reduceLT, Int.reduceEq, Int.reduceNe, Int.reduceLT, Int.reduceLE, Int.reduceGT, Int.reduceGE, Int.reduceBEq, Int.reduceBNe, ↓reduceIte, h63, h65, h66, h68]
          refine e_ret (.inr rfl) ?_
          simp (config := { maxSteps := 1000000 }) (disch := first | assumption | (simp; done) | omega | (simp; omega)) only [push_cast, reduceCtorEq, Nat.reduceEqDiff, Nat.reduceAdd, Nat.reduceSub, Nat.reduceMul, Nat.reduceLeDiff, Nat.reduceLT, Int.reduceEq, Int.reduceNe, Int.reduceLT, Int.reduceLE, Int.reduceGT, Int.reduceGE, Int.reduceBEq, Int.reduceBNe, ↓reduceIte, aret, aresults, aresult, h63, h65, h66, h68]
          refine ⟨_, rfl, ?_⟩
          first | (simp (config := { maxSteps := 1000000 }) (disch := first | assumption | (simp; done) | omega | (simp; omega)) only [push_cast, reduceCtorEq, Nat.reduceEqDiff, Nat.reduceAdd, Nat.reduceSub, Nat.reduceMul, Nat.reduceLeDiff, Nat.reduceLT, Int.reduceEq, Int.reduceNe, Int.reduceLT, Int.reduceLE, Int.reduceGT, Int.reduceGE, Int.reduceBEq, Int.reduceBNe, ↓reduceIte, h63, h65, h66, h68] <;> rfl) | rfl
        · try simp (disch := first | assumption | (simp; done) | omega | (simp; omega)) only [push_cast, reduceCtorEq, Nat.reduceEqDiff, Nat.reduceAdd, Nat.reduceSub, Nat.reduceMul, Nat.reduceLeDiff, Nat.reduceLT, Int.reduceEq, Int.reduceNe, Int.reduceLT, Int.reduceLE, Int.reduceGT, Int.reduceGE, Int.reduceBEq, Int.reduceBNe, ↓reduceIte] at h68
          obtain ⟨v4, h69, h⟩ := F_bd h
          simp (config := { maxSteps := 1000000 }) (disch := first | assumption | (simp; done) | omega | (simp; omega)) only [push_cast, reduceCtorEq, Nat.reduceEqDiff, Nat.reduceAdd, Nat.reduceSub, Nat.reduceMul, Nat.reduceLeDiff, Nat.reduceLT, Int.reduceEq, Int.reduceNe, Int.reduceLT, Int.reduceLE, Int.reduceGT, Int.reduceGE, Int.reduceBEq, Int.reduceBNe, ↓reduceIte, h63, h65, h66, h68]
          refine call_new (by rfl) (c33 N _ _ h69) ?_ rfl ?_
          · simp (config := { maxSteps := 1000000 }) (disch := first | assumption | (simp; done) | omega | (simp; omega)) only [push_cast, reduceCtorEq, Nat.reduceEqDiff, Nat.reduceAdd, Nat.reduceSub, Nat.reduceMul, Nat.reduceLeDiff, Nat.reduceLT, Int.reduceEq, Int.reduceNe, Int.reduceLT, Int.reduceLE, Int.reduceGT, Int.reduceGE, Int.reduceBEq, Int.reduceBNe, ↓reduceIte, h63, h65, h66, h68] <;> rfl
          obtain ⟨h70, h⟩ := F_gd h
          try simp (disch := first | assumption | (simp; done) | omega | (simp; omega)) only [push_cast, reduceCtorEq, Nat.reduceEqDiff, Nat.reduceAdd, Nat.reduceSub, Nat.reduceMul, Nat.reduceLeDiff, Nat.reduceLT, Int.reduceEq, Int.reduceNe, Int.reduceLT, Int.reduceLE, Int.reduceGT, Int.reduceGE, Int.reduceBEq, Int.reduceBNe, ↓reduceIte] at h70
          obtain rfl := Option.some.inj h
          simp (config := { maxSteps := 1000000 }) (disch := first | assumption | (simp; done) | omega | (simp; omega)) only [push_cast, reduceCtorEq, Nat.reduceEqDiff, Nat.reduceAdd, Nat.reduceSub, Nat.reduceMul, Nat.reduceLeDiff, Nat.reduceLT, Int.reduceEq, Int.reduceNe, Int.reduceLT, Int.reduceLE, Int.reduceGT, Int.reduceGE, Int.reduceBEq, Int.reduceBNe, ↓reduceIte, h63, h65, h66, h68, h70]
          refine e_ret (.inr rfl) ?_
          simp (config := { maxSteps := 1000000 }) (disch := first | assumption | (simp; done) | omega | (simp; omega)) only [push_cast, reduceCtorEq, Nat.reduceEqDiff, Nat.reduceAdd, Nat.reduceSub, Nat.reduceMul, Nat.reduceLeDiff, Nat.reduceLT, Int.reduceEq, Int.reduceNe, Int.reduceLT, Int.reduceLE, Int.reduceGT, Int.reduceGE, Int.reduceBEq, Int.reduceBNe, ↓reduceIte, aret, aresults, aresult, h63, h65, h66, h68, h70]
          refine ⟨_, rfl, ?_⟩
          first | (simp (config := { maxSteps := 1000000 }) (disch := first | assumption | (simp; done) | omega | (simp; omega)) only [push_cast, reduceCtorEq, Nat.reduceEqDiff, Nat.reduceAdd, Nat.reduceSub, Nat.reduceMul, Nat.reduceLeDiff, Nat.reduceLT, Int.reduceEq, Int.reduceNe, Int.reduceLT, Int.reduceLE, Int.reduceGT, Int.reduceGE, Int.reduceBEq, Int.reduceBNe, ↓reduceIte, h63, h65, h66, h68, h70] <;> rfl) | rfl
    · try simp (disch := first | assumption | (simp; done) | omega | (simp; omega)) only [push_cast, reduceCtorEq, Nat.reduceEqDiff, Nat.reduceAdd, Nat.reduceSub, Nat.reduceMul, Nat.reduceLeDiff, Nat.reduceLT, Int.reduceEq, Int.reduceNe, Int.reduceLT, Int.reduceLE, Int.reduceGT, Int.reduceGE, Int.reduceBEq, Int.reduceBNe, ↓reduceIte] at h65
      obtain rfl := Option.some.inj h
      simp (config := { maxSteps := 1000000 }) (disch := first | assumption | (simp; done) | omega | (simp; omega)) only [push_cast, reduceCtorEq, Nat.reduceEqDiff, Nat.reduceAdd, Nat.reduceSub, Nat.reduceMul, Nat.reduceLeDiff, Nat.reduceLT, Int.reduceEq, Int.reduceNe, Int.reduceLT, Int.reduceLE, Int.reduceGT, Int.reduceGE, Int.reduceBEq, Int.reduceBNe, ↓reduceIte, h63, h65]
      refine e_ret (.inr rfl) ?_
      simp (config := { maxSteps := 1000000 }) (disch := first | assumption | (simp; done) | omega | (simp; omega)) only [push_cast, reduceCtorEq, Nat.reduceEqDiff, Nat.reduceAdd, Nat.reduceSub, Nat.reduceMul, Nat.reduceLeDiff, Nat.reduceLT, Int.reduceEq, Int.reduceNe, Int.reduceLT, Int.reduceLE, Int.reduceGT, Int.reduceGE, Int.reduceBEq, Int.reduceBNe, ↓reduceIte, aret, aresults, aresult, h63, h65]
      refine ⟨_, rfl, ?_⟩
      first | (simp (config := { maxSteps := 1000000 }) (disch := first | assumption | (simp; done) | omega | (simp; omega)) only [push_cast, reduceCtorEq, Nat.reduceEqDiff, Nat.reduceAdd, Nat.reduceSub, Nat.reduceMul, Nat.reduceLeDiff, Nat.reduceLT, Int.reduceEq, Int.reduceNe, Int.reduceLT, Int.reduceLE, Int.reduceGT, Int.reduceGE, Int.reduceBEq, Int.reduceBNe, ↓reduceIte, h63, h65] <;> rfl) | rfl
  · try simp (disch := first | assumption | (simp; done) | omega | (simp; omega)) only [push_cast, reduceCtorEq, Nat.reduceEqDiff, Nat.reduceAdd, Nat.reduceSub, Nat.reduceMul, Nat.reduceLeDiff, Nat.reduceLT, Int.reduceEq, Int.reduceNe, Int.reduceLT, Int.reduceLE, Int.reduceGT, Int.reduceGE, Int.reduceBEq, Int.reduceBNe, ↓reduceIte] at h63
    obtain rfl := Option.some.inj h
    simp (config := { maxSteps := 1000000 }) (disch := first | assumption | (simp; done) | omega | (simp; omega)) only [push_cast, reduceCtorEq, Nat.reduceEqDiff, Nat.reduceAdd, Nat.reduceSub, Nat.reduceMul, Nat.reduceLeDiff, Nat.reduceLT, Int.reduceEq, Int.reduceNe, Int.reduceLT, Int.reduceLE, Int.reduceGT, Int.reduceGE, Int.reduceBEq, Int.reduceBNe, ↓reduceIte, h63]
    refine e_ret (.inr rfl) ?_
    simp (config := { maxSteps := 1000000 }) (disch := first | assumption | (simp; done) | omega | (simp; omega)) only [push_cast, reduceCtorEq, Nat.reduceEqDiff, Nat.reduceAdd, Nat.reduceSub, Nat.reduceMul, Nat.reduceLeDiff, Nat.reduceLT, Int.reduceEq, Int.reduceNe, Int.reduceLT, Int.reduceLE, Int.reduceGT, Int.reduceGE, Int.reduceBEq, Int.reduceBNe, ↓reduceIte, aret, aresults, aresult, h63]
    refine ⟨_, rfl, ?_⟩
    first | (simp (config := { maxSteps := 1000000 }) (disch := first | assumption | (simp; done) | omega | (simp; omega)) only [push_cast, reduceCtorEq, Nat.reduceEqDiff, Nat.reduceAdd, Nat.reduceSub, Nat.reduceMul, Nat.reduceLeDiff, Nat.reduceLT, Int.reduceEq, Int.reduceNe, Int.reduceLT, Int.reduceLE, Int.reduceGT, Int.reduceGE, Int.reduceBEq, Int.reduceBNe, ↓reduceIte, h63] <;> rfl) | rfl

/-! ## 30 rivermark.rivermarklaw11.put -/
def f30g0 : List RO :=
  [⟨(.some 0), (.new [(.D (.I .i64 0)), (.D (.I .i64 0)), (.D (.S [])), (.fl [])]), .none⟩,
   ⟨(.some 1), (.mv (.const (.bool .false))), .none⟩]
def f30g1 : List RO :=
  [⟨(.some 2), (.new [(.D (.I .i64 0)), (.D (.I .i64 0)), (.D (.S [])), (.fl [])]), .none⟩]
def f30g2 : List RO :=
  [⟨(.some 3), (.mv (.const (.int .i64 0))), .none⟩]
def f30g3 : List RO :=
  [⟨(.some 6), (.mv (.tmp 3)), .none⟩,
   ⟨(.some 7), (.bin .lss (.tmp 6) (.const (.int .i64 3))), .none⟩]
def f30g4 : List RO :=
  [⟨(.some 11), (.load (.some 4) (.tmp 2)), .none⟩,
   ⟨(.some 12), (.mv (.tmp 3)), .none⟩,
   ⟨(.some 13), (.bin .add (.const (.int .i64 97)) (.tmp 12)), .none⟩,
   ⟨(.some 14), (.cvI .u8 (.tmp 13)), .none⟩,
   ⟨(.some 15), (.bslice 1 [(.tmp 14)]), .none⟩,
   ⟨(.some 16), (.cvS (.tmp 15)), .none⟩,
   ⟨(.some 17), (.call (.func 10) [(.tmp 11), (.tmp 16)]), .none⟩,
   ⟨(.some 10), (.mv (.tmp 17)), .none⟩,
   ⟨(.some 18), (.ext (.tmp 10) 0), .none⟩,
   ⟨(.some 19), (.ext (.tmp 10) 1), .none⟩,
   ⟨(.some 4), (.new [(.D (.I .i64 0)), (.D (.I .i64 0)), (.D (.S [])), (.fl [])]), .none⟩,
   ⟨.none, (.store 4 (.tmp 4) (.tmp 18)), .none⟩,
   ⟨(.some 5), (.mv (.tmp 19)), .none⟩]
def f30g5 : List RO :=
  [⟨(.some 20), (.mv (.tmp 5)), .none⟩,
   ⟨(.some 21), (.bin .neq (.tmp 20) (.const (.int .i64 0))), .none⟩]
def f30g6 : List RO :=
  [⟨(.some 22), (.load (.some 4) (.tmp 2)), .none⟩,
   ⟨.none, (.store 4 (.tmp 0) (.tmp 22)), .none⟩,
   ⟨(.some 1), (.mv (.const (.bool .false))), .none⟩]
def f30g7 : List RO :=
  [⟨(.some 23), (.load (.some 4) (.tmp 4)), .none⟩,
   ⟨.none, (.store 4 (.tmp 2) (.tmp 23)), .none⟩]
def f30g8 : List RO :=
  [⟨(.some 8), (.mv (.tmp 3)), .none⟩,
   ⟨(.some 9), (.bin .add (.tmp 8) (.const (.int .i64 1))), .none⟩,
   ⟨(.some 3), (.mv (.tmp 9)), .none⟩]
def f30b9 : RCode := (.seq (.seq (.reg .false f30g3) (.cond (.tmp 7) .skip (.exit 0))) (.seq (.block 1 (.seq (.reg .false f30g4) (.seq (.seq (.reg .false f30g5) (.cond (.tmp 21) (.seq (.reg .false f30g6) .ret) .skip)) (.reg .false f30g7)))) (.reg .false f30g8)))
def f30g10 : List RO :=
  [⟨(.some 24), (.load (.some 4) (.tmp 2)), .none⟩,
   ⟨.none, (.store 4 (.tmp 0) (.tmp 24)), .none⟩,
   ⟨(.some 1), (.mv (.const (.bool .true))), .none⟩]
def f30c : RCode := (.seq (.reg .false f30g0) (.seq (.reg .false f30g1) (.seq (.seq (.reg .false f30g2) (.block 0 (.loop f30b9))) (.seq (.reg .false f30g10) .ret))))
def f30r : List RRes := [(.cell (.some 4) 0), (.tmp 1)]
attribute [push_cast] f30g0 f30g1 f30g2 f30g3 f30g4 f30g5 f30g6 f30g7 f30g8 f30g10
def L30_0 (N : Nat) : Nat → Int → Int → Int → Str → (List Str) → Option (Outbox × Bool)
  | 0, _, _, _, _, _ => none
  | m1+1, a1, a2, a3, a4, a5 => if? (decide (a1 < 3)) (ck .i64 (97 + a1) (bd? (F10 N (Outbox.mk a2 a3 a4 a5) (bytesI [(IntKind.wrap .u8 ((97 + a1)))])) fun v6 => if? ((v6.2 != 0)) (some ((Outbox.mk a2 a3 a4 a5), false)) (ck .i64 (a1 + 1) (L30_0 N m1 (a1 + 1) v6.1.Base v6.1.Acked v6.1.Summary v6.1.Queue)))) (some ((Outbox.mk a2 a3 a4 a5), true))
def I30_0 (N : Nat) (r : (Outbox × Bool)) (n : Nat) (s : AState) : Prop := ∃ (a1 : Int) (a2 : Int) (a3 : Int) (a4 : Str) (a5 : (List Str)), L30_0 N n a1 a2 a3 a4 a5 = some r ∧ s = ⟨envL [(0, .ptr (.O 0) 0), (2, .ptr (.O 1) 0), (3, .D (.I .i64 a1))], ownL [], ownL [some (.box [.D (.I .i64 0), .D (.I .i64 0), .D (.S ([] : Str)), .D (.L ([].map rS))]), some (.box [.D (.I .i64 a2), .D (.I .i64 a3), .D (.S a4), .D (.L (a5.map rS))])], 2⟩
def F30 (N : Nat) : Option (Outbox × Bool) := L30_0 N N 0 0 0 ([] : Str) []
theorem c30 (N : Nat) (r : (Outbox × Bool)) (h : F30 N = some r) : ACall Try.prog 30 [] [] (.tup [.agg [.D (.I .i64 r.1.Base), .D (.I .i64 r.1.Acked), .D (.S r.1.Summary), .D (.L (r.1.Queue.map rS))], .D (.B r.2)]) [] [] := by
  refine ACall.of_bodyW [] (fn := Try.f30) (rc := f30c) (rs := f30r) Try.func30 rfl rfl (by kernel_rfl) (by kernel_rfl) (by kernel_rfl) (by rw [Try.ntmps30]; simp) ?_
  unfold F30 at h
  unfold f30c f30r
  rw [entry_eq _ _]
  simp (config := { maxSteps := 1000000 }) (disch := first | assumption | (simp; done) | omega | (simp; omega)) only [push_cast, reduceCtorEq, Nat.reduceEqDiff, Nat.reduceAdd, Nat.reduceSub, Nat.reduceMul, Nat.reduceLeDiff, Nat.reduceLT, Int.reduceEq, Int.reduceNe, Int.reduceLT, Int.reduceLE, Int.reduceGT, Int.reduceGE, Int.reduceBEq, Int.reduceBNe, ↓reduceIte]
  refine loop_of (I30_0 N _) N [0, 2, 3] [0, 1] (by decide) ⟨0, 0, 0, ([] : Str), [], h, ?_⟩ ?_
  · rw [wk_mk]
    simp (config := { maxSteps := 1000000 }) (disch := first | assumption | (simp; done) | omega | (simp; omega)) only [push_cast, reduceCtorEq, Nat.reduceEqDiff, Nat.reduceAdd, Nat.reduceSub, Nat.reduceMul, Nat.reduceLeDiff, Nat.reduceLT, Int.reduceEq, Int.reduceNe, Int.reduceLT, Int.reduceLE, Int.reduceGT, Int.reduceGE, Int.reduceBEq, Int.reduceBNe, ↓reduceIte] <;> rfl
  · rintro n s ⟨a1, a2, a3, a4, a5, h, rfl⟩
    cases n with
    | zero => exact absurd h (by simp [L30_0])
    | succ m1 =>
      rw [L30_0] at h
      unfold f30b9
      rcases F_if h with ⟨h76, h⟩ | ⟨h76, h⟩
      · try simp (disch := first | assumption | (simp; done) | omega | (simp; omega)) only [push_cast, reduceCtorEq, Nat.reduceEqDiff, Nat.reduceAdd, Nat.reduceSub, Nat.reduceMul, Nat.reduceLeDiff, Nat.reduceLT, Int.reduceEq, Int.reduceNe, Int.reduceLT, Int.reduceLE, Int.reduceGT, Int.reduceGE, Int.reduceBEq, Int.reduceBNe, ↓reduceIte] at h76
        obtain ⟨h77, h⟩ := F_ck h
        try simp (disch := first | assumption | (simp; done) | omega | (simp; omega)) only [push_cast, reduceCtorEq, Nat.reduceEqDiff, Nat.reduceAdd, Nat.reduceSub, Nat.reduceMul, Nat.reduceLeDiff, Nat.reduceLT, Int.reduceEq, Int.reduceNe, Int.reduceLT, Int.reduceLE, Int.reduceGT, Int.reduceGE, Int.reduceBEq, Int.reduceBNe, ↓reduceIte] at h77
        obtain ⟨v6, h78, h⟩ := F_bd h
        simp (config := { maxSteps := 1000000 }) (disch := first | assumption | (simp; done) | omega | (simp; omega)) only [push_cast, reduceCtorEq, Nat.reduceEqDiff, Nat.reduceAdd, Nat.reduceSub, Nat.reduceMul, Nat.reduceLeDiff, Nat.reduceLT, Int.reduceEq, Int.reduceNe, Int.reduceLT, Int.reduceLE, Int.reduceGT, Int.reduceGE, Int.reduceBEq, Int.reduceBNe, ↓reduceIte, h76, h77]
        refine call_new (by rfl) (c10 N _ _ _ h78) ?_ rfl ?_
        · simp (config := { maxSteps := 1000000 }) (disch := first | assumption | (simp; done) | omega | (simp; omega)) only [push_cast, reduceCtorEq, Nat.reduceEqDiff, Nat.reduceAdd, Nat.reduceSub, Nat.reduceMul, Nat.reduceLeDiff, Nat.reduceLT, Int.reduceEq, Int.reduceNe, Int.reduceLT, Int.reduceLE, Int.reduceGT, Int.reduceGE, Int.reduceBEq, Int.reduceBNe, ↓reduceIte, h76, h77] <;> rfl
        rcases F_if h with ⟨h79, h⟩ | ⟨h79, h⟩
        · try simp (disch := first | assumption | (simp; done) | omega | (simp; omega)) only [push_cast, reduceCtorEq, Nat.reduceEqDiff, Nat.reduceAdd, Nat.reduceSub, Nat.reduceMul, Nat.reduceLeDiff, Nat.reduceLT, Int.reduceEq, Int.reduceNe, Int.reduceLT, Int.reduceLE, Int.reduceGT, Int.reduceGE, Int.reduceBEq, Int.reduceBNe, ↓reduceIte] at h79
          obtain rfl := Option.some.inj h
          simp (config := { maxSteps := 1000000 }) (disch := first | assumption | (simp; done) | omega | (simp; omega)) only [push_cast, reduceCtorEq, Nat.reduceEqDiff, Nat.reduceAdd, Nat.reduceSub, Nat.reduceMul, Nat.reduceLeDiff, Nat.reduceLT, Int.reduceEq, Int.reduceNe, Int.reduceLT, Int.reduceLE, Int.reduceGT, Int.reduceGE, Int.reduceBEq, Int.reduceBNe, ↓reduceIte, h76, h77, h79]
          refine e_ret (.inr rfl) ?_
          simp (config := { maxSteps := 1000000 }) (disch := first | assumption | (simp; done) | omega | (simp; omega)) only [push_cast, reduceCtorEq, Nat.reduceEqDiff, Nat.reduceAdd, Nat.reduceSub, Nat.reduceMul, Nat.reduceLeDiff, Nat.reduceLT, Int.reduceEq, Int.reduceNe, Int.reduceLT, Int.reduceLE, Int.reduceGT, Int.reduceGE, Int.reduceBEq, Int.reduceBNe, ↓reduceIte, aret, aresults, aresult, h76, h77, h79]
          refine ⟨_, rfl, ?_⟩
          first | (simp (config := { maxSteps := 1000000 }) (disch := first | assumption | (simp; done) | omega | (simp; omega)) only [push_cast, reduceCtorEq, Nat.reduceEqDiff, Nat.reduceAdd, Nat.reduceSub, Nat.reduceMul, Nat.reduceLeDiff, Nat.reduceLT, Int.reduceEq, Int.reduceNe, Int.reduceLT, Int.reduceLE, Int.reduceGT, Int.reduceGE, Int.reduceBEq, Int.reduceBNe, ↓reduceIte, h76, h77, h79] <;> rfl) | rfl
        · try simp (disch := first | assumption | (simp; done) | omega | (simp; omega)) only [push_cast, reduceCtorEq, Nat.reduceEqDiff, Nat.reduceAdd, Nat.reduceSub, Nat.reduceMul, Nat.reduceLeDiff, Nat.reduceLT, Int.reduceEq, Int.reduceNe, Int.reduceLT, Int.reduceLE, Int.reduceGT, Int.reduceGE, Int.reduceBEq, Int.reduceBNe, ↓reduceIte] at h79
          obtain ⟨h80, h⟩ := F_ck h
          try simp (disch := first | assumption | (simp; done) | omega | (simp; omega)) only [push_cast, reduceCtorEq, Nat.reduceEqDiff, Nat.reduceAdd, Nat.reduceSub, Nat.reduceMul, Nat.reduceLeDiff, Nat.reduceLT, Int.reduceEq, Int.reduceNe, Int.reduceLT, Int.reduceLE, Int.reduceGT, Int.reduceGE, Int.reduceBEq, Int.reduceBNe, ↓reduceIte] at h80
          simp (config := { maxSteps := 1000000 }) (disch := first | assumption | (simp; done) | omega | (simp; omega)) only [push_cast, reduceCtorEq, Nat.reduceEqDiff, Nat.reduceAdd, Nat.reduceSub, Nat.reduceMul, Nat.reduceLeDiff, Nat.reduceLT, Int.reduceEq, Int.reduceNe, Int.reduceLT, Int.reduceLE, Int.reduceGT, Int.reduceGE, Int.reduceBEq, Int.reduceBNe, ↓reduceIte, h76, h77, h79, h80]
          refine lpK_of m1 [0, 2, 3] [0, 1] (by omega) (by decide) ⟨(a1 + 1), v6.1.Base, v6.1.Acked, v6.1.Summary, v6.1.Queue, h, ?_⟩
          rw [wk_mk]
          simp (config := { maxSteps := 1000000 }) (disch := first | assumption | (simp; done) | omega | (simp; omega)) only [push_cast, reduceCtorEq, Nat.reduceEqDiff, Nat.reduceAdd, Nat.reduceSub, Nat.reduceMul, Nat.reduceLeDiff, Nat.reduceLT, Int.reduceEq, Int.reduceNe, Int.reduceLT, Int.reduceLE, Int.reduceGT, Int.reduceGE, Int.reduceBEq, Int.reduceBNe, ↓reduceIte, h76, h77, h79, h80] <;> rfl
      · try simp (disch := first | assumption | (simp; done) | omega | (simp; omega)) only [push_cast, reduceCtorEq, Nat.reduceEqDiff, Nat.reduceAdd, Nat.reduceSub, Nat.reduceMul, Nat.reduceLeDiff, Nat.reduceLT, Int.reduceEq, Int.reduceNe, Int.reduceLT, Int.reduceLE, Int.reduceGT, Int.reduceGE, Int.reduceBEq, Int.reduceBNe, ↓reduceIte] at h76
        obtain rfl := Option.some.inj h
        simp (config := { maxSteps := 1000000 }) (disch := first | assumption | (simp; done) | omega | (simp; omega)) only [push_cast, reduceCtorEq, Nat.reduceEqDiff, Nat.reduceAdd, Nat.reduceSub, Nat.reduceMul, Nat.reduceLeDiff, Nat.reduceLT, Int.reduceEq, Int.reduceNe, Int.reduceLT, Int.reduceLE, Int.reduceGT, Int.reduceGE, Int.reduceBEq, Int.reduceBNe, ↓reduceIte, h76]
        refine e_ret (.inr rfl) ?_
        simp (config := { maxSteps := 1000000 }) (disch := first | assumption | (simp; done) | omega | (simp; omega)) only [push_cast, reduceCtorEq, Nat.reduceEqDiff, Nat.reduceAdd, Nat.reduceSub, Nat.reduceMul, Nat.reduceLeDiff, Nat.reduceLT, Int.reduceEq, Int.reduceNe, Int.reduceLT, Int.reduceLE, Int.reduceGT, Int.reduceGE, Int.reduceBEq, Int.reduceBNe, ↓reduceIte, aret, aresults, aresult, h76]
        refine ⟨_, rfl, ?_⟩
        first | (simp (config := { maxSteps := 1000000 }) (disch := first | assumption | (simp; done) | omega | (simp; omega)) only [push_cast, reduceCtorEq, Nat.reduceEqDiff, Nat.reduceAdd, Nat.reduceSub, Nat.reduceMul, Nat.reduceLeDiff, Nat.reduceLT, Int.reduceEq, Int.reduceNe, Int.reduceLT, Int.reduceLE, Int.reduceGT, Int.reduceGE, Int.reduceBEq, Int.reduceBNe, ↓reduceIte, h76] <;> rfl) | rfl

/-! ## 34 rivermark.link.frames -/
def f34g0 : List RO :=
  [⟨(.some 1), (.box (.tmp 0)), .none⟩,
   ⟨(.some 2), (.mv (.const .nilFunc)), .none⟩]
def f34g1 : List RO :=
  [⟨(.some 3), (.mkf 48 [(.tmp 1)]), .none⟩,
   ⟨(.some 2), (.mv (.tmp 3)), .none⟩]
def f34c : RCode := (.seq (.reg .false f34g0) (.seq (.reg .false f34g1) .ret))
def f34r : List RRes := [(.tmp 2)]
attribute [push_cast] f34g0 f34g1
def F34 (N : Nat) (p0 : Outbox) : Option Outbox := some (p0)
theorem c34 (N : Nat) (p0 : Outbox) (r : Outbox) (h : F34 N p0 = some r) : ACall Try.prog 34 [.agg [.D (.I .i64 p0.Base), .D (.I .i64 p0.Acked), .D (.S p0.Summary), .D (.L (p0.Queue.map rS))]] [] (.clo 48 [.ptr (.O 0) 0]) [] [.box [.D (.I .i64 r.Base), .D (.I .i64 r.Acked), .D (.S r.Summary), .D (.L (r.Queue.map rS))]] := by
  refine ACall.of_bodyW [] (fn := Try.f34) (rc := f34c) (rs := f34r) Try.func34 rfl rfl (by kernel_rfl) (by kernel_rfl) (by kernel_rfl) (by rw [Try.ntmps34]; simp) ?_
  unfold F34 at h
  unfold f34c f34r
  rw [entry_eq _ _]
  obtain rfl := Option.some.inj h
  simp (config := { maxSteps := 1000000 }) (disch := first | assumption | (simp; done) | omega | (simp; omega)) only [push_cast, reduceCtorEq, Nat.reduceEqDiff, Nat.reduceAdd, Nat.reduceSub, Nat.reduceMul, Nat.reduceLeDiff, Nat.reduceLT, Int.reduceEq, Int.reduceNe, Int.reduceLT, Int.reduceLE, Int.reduceGT, Int.reduceGE, Int.reduceBEq, Int.reduceBNe, ↓reduceIte]
  refine AEndW.of [0] (.inr rfl) (by decide) rfl ?_ rfl ?_
  · simp (config := { maxSteps := 1000000 }) (disch := first | assumption | (simp; done) | omega | (simp; omega)) only [push_cast, reduceCtorEq, Nat.reduceEqDiff, Nat.reduceAdd, Nat.reduceSub, Nat.reduceMul, Nat.reduceLeDiff, Nat.reduceLT, Int.reduceEq, Int.reduceNe, Int.reduceLT, Int.reduceLE, Int.reduceGT, Int.reduceGE, Int.reduceBEq, Int.reduceBNe, ↓reduceIte] <;> rfl
  · simp (config := { maxSteps := 1000000 }) (disch := first | assumption | (simp; done) | omega | (simp; omega)) only [push_cast, reduceCtorEq, Nat.reduceEqDiff, Nat.reduceAdd, Nat.reduceSub, Nat.reduceMul, Nat.reduceLeDiff, Nat.reduceLT, Int.reduceEq, Int.reduceNe, Int.reduceLT, Int.reduceLE, Int.reduceGT, Int.reduceGE, Int.reduceBEq, Int.reduceBNe, ↓reduceIte] <;> rfl

/-! ## 12 rivermark.link.Frames -/
def f12g0 : List RO :=
  [⟨(.some 2), (.box (.tmp 0)), .none⟩,
   ⟨(.some 3), (.box (.tmp 1)), .none⟩,
   ⟨(.some 4), (.mv (.const (.slice .none 0 0))), .none⟩,
   ⟨(.some 5), (.mv (.const (.int .i64 0))), .none⟩]
def f12g1 : List RO :=
  [⟨(.some 8), (.load (.some 4) (.tmp 2)), .none⟩,
   ⟨(.some 9), (.call (.func 18) [(.tmp 8)]), .none⟩,
   ⟨(.some 10), (.un .not (.tmp 9)), .none⟩,
   ⟨(.some 11), (.mv (.tmp 10)), .none⟩,
   ⟨(.some 12), (.load .none (.tmp 3)), (.some (11, .false))⟩,
   ⟨(.some 13), (.bin .lss (.tmp 12) (.const (.int .i64 0))), (.some (11, .false))⟩,
   ⟨(.some 14), (.pick (.tmp 11) (.const (.bool .true)) (.tmp 13)), .none⟩]
def f12g2 : List RO :=
  [⟨(.some 4), (.mv (.const (.slice .none 0 0))), .none⟩,
   ⟨(.some 5), (.mv (.const (.int .i64 1))), .none⟩]
def f12g3 : List RO :=
  [⟨(.some 6), (.new [(.fl [])]), .none⟩]
def f12g4 : List RO :=
  [⟨(.some 15), (.load (.some 4) (.tmp 2)), .none⟩,
   ⟨(.some 16), (.call (.func 34) [(.tmp 15)]), .none⟩]
def f12g6 : List RO :=
  [⟨(.some 7), (.new [(.D (.B .false)), (.D (.I .i64 0)), (.D (.S []))]), .none⟩,
   ⟨.none, (.store 3 (.tmp 7) (.tmp 17)), .none⟩]
def f12g7 : List RO :=
  [⟨(.some 18), (.load .none (.tmp 6)), .none⟩,
   ⟨(.some 19), (.len .false (.tmp 18)), .none⟩,
   ⟨(.some 20), (.load .none (.tmp 3)), .none⟩,
   ⟨(.some 21), (.bin .eql (.tmp 19) (.tmp 20)), .none⟩]
def f12g8 : List RO :=
  [⟨(.some 22), (.load .none (.tmp 6)), .none⟩,
   ⟨(.some 23), (.load (.some 3) (.tmp 7)), .none⟩,
   ⟨(.some 24), (.bslice 3 [(.tmp 23)]), .none⟩,
   ⟨(.some 25), (.appE 3 32 (.tmp 22) (.tmp 24)), .none⟩,
   ⟨.none, (.store 1 (.tmp 6) (.tmp 25)), .none⟩]
def f12k5a : RCode := (.reg .false f12g6)
def f12k5b : RCode := (.block 1 (.seq (.seq (.reg .false f12g7) (.cond (.tmp 21) (.exit 0) .skip)) (.reg .false f12g8)))
def f12g9 : List RO :=
  [⟨(.some 26), (.load .none (.tmp 6)), .none⟩,
   ⟨(.some 4), (.mv (.tmp 26)), .none⟩,
   ⟨(.some 5), (.mv (.const (.int .i64 0))), .none⟩]
def f12c (f12k5 : Code) : RCode := (.seq (.reg .false f12g0) (.seq (.seq (.reg .false f12g1) (.cond (.tmp 14) (.seq (.reg .false f12g2) .ret) .skip)) (.seq (.reg .false f12g3) (.seq (.seq (.reg .false f12g4) (.block 0 (.sem 27 f12k5))) (.seq (.reg .false f12g9) .ret)))))
def f12r : List RRes := [(.tmp 4), (.tmp 5)]
attribute [push_cast] f12g0 f12g1 f12g2 f12g3 f12g4 f12g6 f12g7 f12g8 f12g9
theorem f12k5a_ {P : Program} {Y : Yh} {Q : Exit → AState → Prop} {s : AState} : acode P Y f12k5a Q s = acode P Y (.reg .false f12g6) Q s := (rfl)
theorem f12k5b_ {P : Program} {Y : Yh} {Q : Exit → AState → Prop} {s : AState} : acode P Y f12k5b Q s = acode P Y (.block 1 (.seq (.seq (.reg .false f12g7) (.cond (.tmp 21) (.exit 0) .skip)) (.reg .false f12g8))) Q s := (rfl)
attribute [push_cast] f12k5a_ f12k5b_
def f48yg0 : List RO :=
  [⟨(.some 4), (.faddr 1 (.tmp 1)), .none⟩,
   ⟨(.some 5), (.load .none (.tmp 4)), .none⟩,
   ⟨(.some 6), (.faddr 0 (.tmp 1)), .none⟩,
   ⟨(.some 7), (.load .none (.tmp 6)), .none⟩,
   ⟨(.some 8), (.bin .lss (.tmp 5) (.tmp 7)), .none⟩,
   ⟨(.some 9), (.mv (.tmp 8)), .none⟩,
   ⟨(.some 10), (.mv (.tmp 0)), (.some (9, .true))⟩,
   ⟨(.some 11), (.faddr 0 (.tmp 1)), (.some (9, .true))⟩,
   ⟨(.some 12), (.load .none (.tmp 11)), (.some (9, .true))⟩,
   ⟨(.some 13), (.faddr 2 (.tmp 1)), (.some (9, .true))⟩,
   ⟨(.some 14), (.load .none (.tmp 13)), (.some (9, .true))⟩,
   ⟨(.some 15), (.build [(.D (.B .false)), (.D (.I .i64 0)), (.D (.S []))] [(0, (1, (.const (.bool .true)))), (1, (1, (.tmp 12))), (2, (1, (.tmp 14)))]), (.some (9, .true))⟩,
   ⟨(.some 16), (.callE (.tmp 10) [(.tmp 15)]), (.some (9, .true))⟩,
   ⟨(.some 17), (.un .not (.tmp 16)), (.some (9, .true))⟩,
   ⟨(.some 18), (.pick (.tmp 9) (.tmp 17) (.const (.bool .false))), .none⟩]
def f48yg1 : List RO :=
  [⟨(.some 19), (.faddr 1 (.tmp 1)), .none⟩,
   ⟨(.some 20), (.load .none (.tmp 19)), .none⟩,
   ⟨(.some 21), (.faddr 0 (.tmp 1)), .none⟩,
   ⟨(.some 22), (.load .none (.tmp 21)), .none⟩,
   ⟨(.some 23), (.mm .true (.tmp 20) (.tmp 22)), .none⟩,
   ⟨(.some 3), (.mv (.tmp 23)), .none⟩]
def f48yg2 : List RO :=
  [⟨(.some 24), (.mv (.tmp 3)), .none⟩,
   ⟨(.some 25), (.load (.some 4) (.tmp 1)), .none⟩,
   ⟨(.some 26), (.call (.func 32) [(.tmp 25)]), .none⟩,
   ⟨(.some 27), (.bin .lss (.tmp 24) (.tmp 26)), .none⟩]
def f48yg3 : List RO :=
  [⟨(.some 30), (.mv (.tmp 0)), .none⟩,
   ⟨(.some 31), (.mv (.tmp 3)), .none⟩,
   ⟨(.some 32), (.faddr 3 (.tmp 1)), .none⟩,
   ⟨(.some 33), (.load .none (.tmp 32)), .none⟩,
   ⟨(.some 34), (.mv (.tmp 3)), .none⟩,
   ⟨(.some 35), (.faddr 0 (.tmp 1)), .none⟩,
   ⟨(.some 36), (.load .none (.tmp 35)), .none⟩,
   ⟨(.some 37), (.bin .sub (.tmp 34) (.tmp 36)), .none⟩,
   ⟨(.some 38), (.iaddr 1 (.tmp 33) (.tmp 37)), .none⟩,
   ⟨(.some 39), (.load .none (.tmp 38)), .none⟩,
   ⟨(.some 40), (.build [(.D (.B .false)), (.D (.I .i64 0)), (.D (.S []))] [(1, (1, (.tmp 31))), (2, (1, (.tmp 39)))]), .none⟩,
   ⟨(.some 41), (.callE (.tmp 30) [(.tmp 40)]), .none⟩,
   ⟨(.some 42), (.un .not (.tmp 41)), .none⟩]
def f48yg4 : List RO :=
  [⟨(.some 28), (.mv (.tmp 3)), .none⟩,
   ⟨(.some 29), (.bin .add (.tmp 28) (.const (.int .i64 1))), .none⟩,
   ⟨(.some 3), (.mv (.tmp 29)), .none⟩]
def f48yb5 : RCode := (.seq (.seq (.regY f48yg2) (.cond (.tmp 27) .skip (.exit 0))) (.seq (.block 1 (.seq (.regY f48yg3) (.cond (.tmp 42) .ret .skip))) (.regY f48yg4)))
def f48yc : RCode := (.seq (.seq (.regY f48yg0) (.cond (.tmp 18) .ret .skip)) (.seq (.regY f48yg1) (.block 0 (.loop f48yb5))))
def f48yr : List RRes := []
attribute [push_cast] f48yg0 f48yg1 f48yg2 f48yg3 f48yg4
theorem f48yc_ {P : Program} {Y : Yh} {Q : Exit → AState → Prop} {s : AState} : acode P Y f48yc Q s = acode P Y (.seq (.seq (.regY f48yg0) (.cond (.tmp 18) .ret .skip)) (.seq (.regY f48yg1) (.block 0 (.loop f48yb5)))) Q s := (rfl)
attribute [push_cast] f48yc_
def L12_0 (N : Nat) (p1 : Int) (v2 : Outbox) : Nat → Int → (List Frame) → Option ((List Frame) × Int)
  | 0, _, _ => none
  | m1+1, a3, a4 => bd? (F32 N v2) fun v5 => if? (decide (a3 < v5)) (ck .i64 (a3 - v2.Base) (get? v2.Queue ((a3 - v2.Base)) fun x6 => if? (((a4.length : Int) == p1)) (some (a4, 0)) (gd? ((a4.length + [(Frame.mk false a3 x6)].length) * 32 ≤ 140737488355328) (ck .i64 (a3 + 1) (L12_0 N p1 v2 m1 (a3 + 1) (a4 ++ [(Frame.mk false a3 x6)])))))) (some (a4, 0))
def I12_0 (N : Nat) (p1 : Int) (v2 : Outbox) (y1 : Nat) (r : ((List Frame) × Int)) (n : Nat) (s : AState) : Prop := ∃ (a3 : Int) (a4 : (List Frame)), L12_0 N p1 v2 n a3 a4 = some r ∧ s = ⟨envL [(0, .yld y1), (1, .ptr (.O 2) 0), (3, .D (.I .i64 a3)), (4, .ptr (.O 2) 1), (5, .D (.I .i64 v2.Acked)), (43, .gst none), (47, .ptr (.O 0) 0), (50, .ptr (.O 1) 0), (60, .clo 48 [.ptr (.O 2) 0])], ownL [], ownL [some (.box [.D (.I .i64 p1)]), some (.box [.sl (.O 3) 3 0 a4.length]), some (.box [.D (.I .i64 v2.Base), .D (.I .i64 v2.Acked), .D (.S v2.Summary), .D (.L (v2.Queue.map rS))]), some (.row true 3 (a4.map Frame.row))], 4⟩
def F12 (N : Nat) (p0 : Outbox) (p1 : Int) : Option ((List Frame) × Int) := bd? (F18 N p0) fun v1 => if? (v1) (if? (decide (p1 < 0)) (some ([], 1)) (bd? (F34 N p0) fun v2 => if? (decide (v2.Acked < v2.Base)) (if? ((0 == p1)) (some ([], 0)) (L12_0 N p1 v2 N (max v2.Acked v2.Base) [(Frame.mk true v2.Base v2.Summary)])) (L12_0 N p1 v2 N (max v2.Acked v2.Base) []))) (some ([], 1))
theorem c12 (N : Nat) (p0 : Outbox) (p1 : Int) (r : ((List Frame) × Int)) (h : F12 N p0 p1 = some r) : ACall Try.prog 12 [.agg [.D (.I .i64 p0.Base), .D (.I .i64 p0.Acked), .D (.S p0.Summary), .D (.L (p0.Queue.map rS))], .D (.I .i64 p1)] [] (.tup [.sl (.O 0) 3 0 r.1.length, .D (.I .i64 r.2)]) [] [.row true 3 (r.1.map Frame.row)] := by
  obtain ⟨f12k5, hf12k5⟩ : ∃ k, k = subC [1, 1, 1, 0, 1, 0] (Try.f12.body.getD .skip) := ⟨_, rfl⟩
  refine ACall.of_bodyW [25] (fn := Try.f12) (rc := (f12c f12k5)) (rs := f12r) Try.func12 rfl rfl (by kernel_rfl) (by subst hf12k5; kernel_rfl) (by kernel_rfl) (by rw [Try.ntmps12]; simp) ?_
  unfold F12 at h
  unfold f12c f12r
  rw [entry_eq _ _]
  obtain ⟨v1, h107, h⟩ := F_bd h
  simp (config := { maxSteps := 1000000 }) (disch := first | assumption | (simp; done) | omega | (simp; omega)) only [push_cast, reduceCtorEq, Nat.reduceEqDiff, Nat.reduceAdd, Nat.reduceSub, Nat.reduceMul, Nat.reduceLeDiff, Nat.reduceLT, Int.reduceEq, Int.reduceNe, Int.reduceLT, Int.reduceLE, Int.reduceGT, Int.reduceGE, Int.reduceBEq, Int.reduceBNe, ↓reduceIte]
  refine call_flat (by rfl) (c18 N _ _ h107) ?_ rfl ?_
  · simp (config := { maxSteps := 1000000 }) (disch := first | assumption | (simp; done) | omega | (simp; omega)) only [push_cast, reduceCtorEq, Nat.reduceEqDiff, Nat.reduceAdd, Nat.reduceSub, Nat.reduceMul, Nat.reduceLeDiff, Nat.reduceLT, Int.reduceEq, Int.reduceNe, Int.reduceLT, Int.reduceLE, Int.reduceGT, Int.reduceGE, Int.reduceBEq, Int.reduceBNe, ↓reduceIte] <;> rfl
  rcases F_if h with ⟨h108, h⟩ | ⟨h108, h⟩
  · try simp (disch := first | assumption | (simp; done) | omega | (simp; omega)) only [push_cast, reduceCtorEq, Nat.reduceEqDiff, Nat.reduceAdd, Nat.reduceSub, Nat.reduceMul, Nat.reduceLeDiff, Nat.reduceLT, Int.reduceEq, Int.reduceNe, Int.reduceLT, Int.reduceLE, Int.reduceGT, Int.reduceGE, Int.reduceBEq, Int.reduceBNe, ↓reduceIte] at h108
    rcases F_if h with ⟨h109, h⟩ | ⟨h109, h⟩
    · try simp (disch := first | assumption | (simp; done) | omega | (simp; omega)) only [push_cast, reduceCtorEq, Nat.reduceEqDiff, Nat.reduceAdd, Nat.reduceSub, Nat.reduceMul, Nat.reduceLeDiff, Nat.reduceLT, Int.reduceEq, Int.reduceNe, Int.reduceLT, Int.reduceLE, Int.reduceGT, Int.reduceGE, Int.reduceBEq, Int.reduceBNe, ↓reduceIte] at h109
      obtain rfl := Option.some.inj h
      simp (config := { maxSteps := 1000000 }) (disch := first | assumption | (simp; done) | omega | (simp; omega)) only [push_cast, reduceCtorEq, Nat.reduceEqDiff, Nat.reduceAdd, Nat.reduceSub, Nat.reduceMul, Nat.reduceLeDiff, Nat.reduceLT, Int.reduceEq, Int.reduceNe, Int.reduceLT, Int.reduceLE, Int.reduceGT, Int.reduceGE, Int.reduceBEq, Int.reduceBNe, ↓reduceIte, h108, h109]
      refine end_own0 4 3 rfl ?_
      simp (config := { maxSteps := 1000000 }) (disch := first | assumption | (simp; done) | omega | (simp; omega)) only [push_cast, reduceCtorEq, Nat.reduceEqDiff, Nat.reduceAdd, Nat.reduceSub, Nat.reduceMul, Nat.reduceLeDiff, Nat.reduceLT, Int.reduceEq, Int.reduceNe, Int.reduceLT, Int.reduceLE, Int.reduceGT, Int.reduceGE, Int.reduceBEq, Int.reduceBNe, ↓reduceIte, h108, h109]
      refine AEndW.of [2] (.inr rfl) (by decide) rfl ?_ rfl ?_
      · simp (config := { maxSteps := 1000000 }) (disch := first | assumption | (simp; done) | omega | (simp; omega)) only [push_cast, reduceCtorEq, Nat.reduceEqDiff, Nat.reduceAdd, Nat.reduceSub, Nat.reduceMul, Nat.reduceLeDiff, Nat.reduceLT, Int.reduceEq, Int.reduceNe, Int.reduceLT, Int.reduceLE, Int.reduceGT, Int.reduceGE, Int.reduceBEq, Int.reduceBNe, ↓reduceIte, h108, h109] <;> rfl
      · simp (config := { maxSteps := 1000000 }) (disch := first | assumption | (simp; done) | omega | (simp; omega)) only [push_cast, reduceCtorEq, Nat.reduceEqDiff, Nat.reduceAdd, Nat.reduceSub, Nat.reduceMul, Nat.reduceLeDiff, Nat.reduceLT, Int.reduceEq, Int.reduceNe, Int.reduceLT, Int.reduceLE, Int.reduceGT, Int.reduceGE, Int.reduceBEq, Int.reduceBNe, ↓reduceIte, h108, h109] <;> rfl
    · try simp (disch := first | assumption | (simp; done) | omega | (simp; omega)) only [push_cast, reduceCtorEq, Nat.reduceEqDiff, Nat.reduceAdd, Nat.reduceSub, Nat.reduceMul, Nat.reduceLeDiff, Nat.reduceLT, Int.reduceEq, Int.reduceNe, Int.reduceLT, Int.reduceLE, Int.reduceGT, Int.reduceGE, Int.reduceBEq, Int.reduceBNe, ↓reduceIte] at h109
      obtain ⟨v2, h110, h⟩ := F_bd h
      simp (config := { maxSteps := 1000000 }) (disch := first | assumption | (simp; done) | omega | (simp; omega)) only [push_cast, reduceCtorEq, Nat.reduceEqDiff, Nat.reduceAdd, Nat.reduceSub, Nat.reduceMul, Nat.reduceLeDiff, Nat.reduceLT, Int.reduceEq, Int.reduceNe, Int.reduceLT, Int.reduceLE, Int.reduceGT, Int.reduceGE, Int.reduceBEq, Int.reduceBNe, ↓reduceIte, h108, h109]
      refine call_new (by rfl) (c34 N _ _ h110) ?_ rfl ?_
      · simp (config := { maxSteps := 1000000 }) (disch := first | assumption | (simp; done) | omega | (simp; omega)) only [push_cast, reduceCtorEq, Nat.reduceEqDiff, Nat.reduceAdd, Nat.reduceSub, Nat.reduceMul, Nat.reduceLeDiff, Nat.reduceLT, Int.reduceEq, Int.reduceNe, Int.reduceLT, Int.reduceLE, Int.reduceGT, Int.reduceGE, Int.reduceBEq, Int.reduceBNe, ↓reduceIte, h108, h109] <;> rfl
      try simp (config := { maxSteps := 1000000 }) (disch := first | assumption | (simp; done) | omega | (simp; omega)) only [push_cast, reduceCtorEq, Nat.reduceEqDiff, Nat.reduceAdd, Nat.reduceSub, Nat.reduceMul, Nat.reduceLeDiff, Nat.reduceLT, Int.reduceEq, Int.reduceNe, Int.reduceLT, Int.reduceLE, Int.reduceGT, Int.reduceGE, Int.reduceBEq, Int.reduceBNe, ↓reduceIte, h108, h109]
      refine range_of [16, 41, 1000000] [25] (c := f12k5) (g := (.tmp 16)) (ps := [17]) (f := 48) (fn := Try.f48) (N2 := 43) (rc2 := f48yc) (rcA := f12k5a) (rcB := f12k5b) (caps := [.ptr (.O 3) 0]) (by subst hf12k5; kernel_rfl) Try.func48 rfl (by kernel_rfl) (by kernel_rfl) Try.ntmps48 (by kernel_rfl) (by subst hf12k5; kernel_rfl) (by subst hf12k5; kernel_rfl) (by kernel_rfl) (by decide) rfl (by rfl) (by decide) ?_
      intro y1
      rcases F_if h with ⟨h111, h⟩ | ⟨h111, h⟩
      · try simp (disch := first | assumption | (simp; done) | omega | (simp; omega)) only [push_cast, reduceCtorEq, Nat.reduceEqDiff, Nat.reduceAdd, Nat.reduceSub, Nat.reduceMul, Nat.reduceLeDiff, Nat.reduceLT, Int.reduceEq, Int.reduceNe, Int.reduceLT, Int.reduceLE, Int.reduceGT, Int.reduceGE, Int.reduceBEq, Int.reduceBNe, ↓reduceIte] at h111
        try simp (config := { maxSteps := 1000000 }) (disch := first | assumption | (simp; done) | omega | (simp; omega)) only [push_cast, reduceCtorEq, Nat.reduceEqDiff, Nat.reduceAdd, Nat.reduceSub, Nat.reduceMul, Nat.reduceLeDiff, Nat.reduceLT, Int.reduceEq, Int.reduceNe, Int.reduceLT, Int.reduceLE, Int.reduceGT, Int.reduceGE, Int.reduceBEq, Int.reduceBNe, ↓reduceIte, h108, h109, h111]
        rw [oY_G y1 (by rfl)]
        rcases F_if h with ⟨h112, h⟩ | ⟨h112, h⟩
        · try simp (disch := first | assumption | (simp; done) | omega | (simp; omega)) only [push_cast, reduceCtorEq, Nat.reduceEqDiff, Nat.reduceAdd, Nat.reduceSub, Nat.reduceMul, Nat.reduceLeDiff, Nat.reduceLT, Int.reduceEq, Int.reduceNe, Int.reduceLT, Int.reduceLE, Int.reduceGT, Int.reduceGE, Int.reduceBEq, Int.reduceBNe, ↓reduceIte] at h112
          obtain rfl := Option.some.inj h
          simp (config := { maxSteps := 1000000 }) (disch := first | assumption | (simp; done) | omega | (simp; omega)) only [push_cast, reduceCtorEq, Nat.reduceEqDiff, Nat.reduceAdd, Nat.reduceSub, Nat.reduceMul, Nat.reduceLeDiff, Nat.reduceLT, Int.reduceEq, Int.reduceNe, Int.reduceLT, Int.reduceLE, Int.reduceGT, Int.reduceGE, Int.reduceBEq, Int.reduceBNe, ↓reduceIte, h108, h109, h111, h112]
          refine end_own0 4 3 rfl ?_
          simp (config := { maxSteps := 1000000 }) (disch := first | assumption | (simp; done) | omega | (simp; omega)) only [push_cast, reduceCtorEq, Nat.reduceEqDiff, Nat.reduceAdd, Nat.reduceSub, Nat.reduceMul, Nat.reduceLeDiff, Nat.reduceLT, Int.reduceEq, Int.reduceNe, Int.reduceLT, Int.reduceLE, Int.reduceGT, Int.reduceGE, Int.reduceBEq, Int.reduceBNe, ↓reduceIte, h108, h109, h111, h112]
          refine AEndW.of [5] (.inr rfl) (by decide) rfl ?_ rfl ?_
          · simp (config := { maxSteps := 1000000 }) (disch := first | assumption | (simp; done) | omega | (simp; omega)) only [push_cast, reduceCtorEq, Nat.reduceEqDiff, Nat.reduceAdd, Nat.reduceSub, Nat.reduceMul, Nat.reduceLeDiff, Nat.reduceLT, Int.reduceEq, Int.reduceNe, Int.reduceLT, Int.reduceLE, Int.reduceGT, Int.reduceGE, Int.reduceBEq, Int.reduceBNe, ↓reduceIte, h108, h109, h111, h112] <;> rfl
          · simp (config := { maxSteps := 1000000 }) (disch := first | assumption | (simp; done) | omega | (simp; omega)) only [push_cast, reduceCtorEq, Nat.reduceEqDiff, Nat.reduceAdd, Nat.reduceSub, Nat.reduceMul, Nat.reduceLeDiff, Nat.reduceLT, Int.reduceEq, Int.reduceNe, Int.reduceLT, Int.reduceLE, Int.reduceGT, Int.reduceGE, Int.reduceBEq, Int.reduceBNe, ↓reduceIte, h108, h109, h111, h112] <;> rfl
        · try simp (disch := first | assumption | (simp; done) | omega | (simp; omega)) only [push_cast, reduceCtorEq, Nat.reduceEqDiff, Nat.reduceAdd, Nat.reduceSub, Nat.reduceMul, Nat.reduceLeDiff, Nat.reduceLT, Int.reduceEq, Int.reduceNe, Int.reduceLT, Int.reduceLE, Int.reduceGT, Int.reduceGE, Int.reduceBEq, Int.reduceBNe, ↓reduceIte] at h112
          simp (config := { maxSteps := 1000000 }) (disch := first | assumption | (simp; done) | omega | (simp; omega)) only [push_cast, reduceCtorEq, Nat.reduceEqDiff, Nat.reduceAdd, Nat.reduceSub, Nat.reduceMul, Nat.reduceLeDiff, Nat.reduceLT, Int.reduceEq, Int.reduceNe, Int.reduceLT, Int.reduceLE, Int.reduceGT, Int.reduceGE, Int.reduceBEq, Int.reduceBNe, ↓reduceIte, h108, h109, h111, h112]
          refine loop_of (I12_0 N p1 v2 y1 _) N [0, 1, 3, 4, 5, 43, 47, 50, 60] [1, 2, 3, 6] (by decide) ⟨(max v2.Acked v2.Base), [(Frame.mk true v2.Base v2.Summary)], h, ?_⟩ ?_
          · rw [wk_mk]
            simp (config := { maxSteps := 1000000 }) (disch := first | assumption | (simp; done) | omega | (simp; omega)) only [push_cast, reduceCtorEq, Nat.reduceEqDiff, Nat.reduceAdd, Nat.reduceSub, Nat.reduceMul, Nat.reduceLeDiff, Nat.reduceLT, Int.reduceEq, Int.reduceNe, Int.reduceLT, Int.reduceLE, Int.reduceGT, Int.reduceGE, Int.reduceBEq, Int.reduceBNe, ↓reduceIte, h108, h109, h111, h112] <;> rfl
          · rintro n s ⟨a3, a4, h, rfl⟩
            cases n with
            | zero => exact absurd h (by simp [L12_0])
            | succ m1 =>
              rw [L12_0] at h
              unfold f48yb5
              obtain ⟨v5, h113, h⟩ := F_bd h
              simp (config := { maxSteps := 1000000 }) (disch := first | assumption | (simp; done) | omega | (simp; omega)) only [push_cast, reduceCtorEq, Nat.reduceEqDiff, Nat.reduceAdd, Nat.reduceSub, Nat.reduceMul, Nat.reduceLeDiff, Nat.reduceLT, Int.reduceEq, Int.reduceNe, Int.reduceLT, Int.reduceLE, Int.reduceGT, Int.reduceGE, Int.reduceBEq, Int.reduceBNe, ↓reduceIte, h108, h109, h111, h112]
              refine call_flat (by rfl) (c32 N _ _ h113) ?_ rfl ?_
              · simp (config := { maxSteps := 1000000 }) (disch := first | assumption | (simp; done) | omega | (simp; omega)) only [push_cast, reduceCtorEq, Nat.reduceEqDiff, Nat.reduceAdd, Nat.reduceSub, Nat.reduceMul, Nat.reduceLeDiff, Nat.reduceLT, Int.reduceEq, Int.reduceNe, Int.reduceLT, Int.reduceLE, Int.reduceGT, Int.reduceGE, Int.reduceBEq, Int.reduceBNe, ↓reduceIte, h108, h109, h111, h112] <;> rfl
              rcases F_if h with ⟨h114, h⟩ | ⟨h114, h⟩
              · try simp (disch := first | assumption | (simp; done) | omega | (simp; omega)) only [push_cast, reduceCtorEq, Nat.reduceEqDiff, Nat.reduceAdd, Nat.reduceSub, Nat.reduceMul, Nat.reduceLeDiff, Nat.reduceLT, Int.reduceEq, Int.reduceNe, Int.reduceLT, Int.reduceLE, Int.reduceGT, Int.reduceGE, Int.reduceBEq, Int.reduceBNe, ↓reduceIte] at h114
                obtain ⟨h115, h⟩ := F_ck h
                try simp (disch := first | assumption | (simp; done) | omega | (simp; omega)) only [push_cast, reduceCtorEq, Nat.reduceEqDiff, Nat.reduceAdd, Nat.reduceSub, Nat.reduceMul, Nat.reduceLeDiff, Nat.reduceLT, Int.reduceEq, Int.reduceNe, Int.reduceLT, Int.reduceLE, Int.reduceGT, Int.reduceGE, Int.reduceBEq, Int.reduceBNe, ↓reduceIte] at h115
                obtain ⟨x6, h116, h117, h⟩ := F_get h
                have h119 := get_lt h116 h117
                have h118 := map_get rS h117
                try simp (disch := first | assumption | (simp; done) | omega | (simp; omega)) only [push_cast, reduceCtorEq, Nat.reduceEqDiff, Nat.reduceAdd, Nat.reduceSub, Nat.reduceMul, Nat.reduceLeDiff, Nat.reduceLT, Int.reduceEq, Int.reduceNe, Int.reduceLT, Int.reduceLE, Int.reduceGT, Int.reduceGE, Int.reduceBEq, Int.reduceBNe, ↓reduceIte] at h118
                try simp (disch := first | assumption | (simp; done) | omega | (simp; omega)) only [push_cast, reduceCtorEq, Nat.reduceEqDiff, Nat.reduceAdd, Nat.reduceSub, Nat.reduceMul, Nat.reduceLeDiff, Nat.reduceLT, Int.reduceEq, Int.reduceNe, Int.reduceLT, Int.reduceLE, Int.reduceGT, Int.reduceGE, Int.reduceBEq, Int.reduceBNe, ↓reduceIte] at h119
                rcases F_if h with ⟨h120, h⟩ | ⟨h120, h⟩
                · try simp (disch := first | assumption | (simp; done) | omega | (simp; omega)) only [push_cast, reduceCtorEq, Nat.reduceEqDiff, Nat.reduceAdd, Nat.reduceSub, Nat.reduceMul, Nat.reduceLeDiff, Nat.reduceLT, Int.reduceEq, Int.reduceNe, Int.reduceLT, Int.reduceLE, Int.reduceGT, Int.reduceGE, Int.reduceBEq, Int.reduceBNe, ↓reduceIte] at h120
                  obtain rfl := Option.some.inj h
                  simp (config := { maxSteps := 1000000 }) (disch := first | assumption | (simp; done) | omega | (simp; omega)) only [push_cast, reduceCtorEq, Nat.reduceEqDiff, Nat.reduceAdd, Nat.reduceSub, Nat.reduceMul, Nat.reduceLeDiff, Nat.reduceLT, Int.reduceEq, Int.reduceNe, Int.reduceLT, Int.reduceLE, Int.reduceGT, Int.reduceGE, Int.reduceBEq, Int.reduceBNe, ↓reduceIte, h108, h109, h111, h112, h114, h115, h116, h118, h119, h120]
                  refine AEndW.of [3] (.inr rfl) (by decide) rfl ?_ rfl ?_
                  · simp (config := { maxSteps := 1000000 }) (disch := first | assumption | (simp; done) | omega | (simp; omega)) only [push_cast, reduceCtorEq, Nat.reduceEqDiff, Nat.reduceAdd, Nat.reduceSub, Nat.reduceMul, Nat.reduceLeDiff, Nat.reduceLT, Int.reduceEq, Int.reduceNe, Int.reduceLT, Int.reduceLE, Int.reduceGT, Int.reduceGE, Int.reduceBEq, Int.reduceBNe, ↓reduceIte, h108, h109, h111, h112, h114, h115, h116, h118, h119, h120] <;> rfl
                  · simp (config := { maxSteps := 1000000 }) (disch := first | assumption | (simp; done) | omega | (simp; omega)) only [push_cast, reduceCtorEq, Nat.reduceEqDiff, Nat.reduceAdd, Nat.reduceSub, Nat.reduceMul, Nat.reduceLeDiff, Nat.reduceLT, Int.reduceEq, Int.reduceNe, Int.reduceLT, Int.reduceLE, Int.reduceGT, Int.reduceGE, Int.reduceBEq, Int.reduceBNe, ↓reduceIte, h108, h109, h111, h112, h114, h115, h116, h118, h119, h120] <;> rfl
                · try simp (disch := first | assumption | (simp; done) | omega | (simp; omega)) only [push_cast, reduceCtorEq, Nat.reduceEqDiff, Nat.reduceAdd, Nat.reduceSub, Nat.reduceMul, Nat.reduceLeDiff, Nat.reduceLT, Int.reduceEq, Int.reduceNe, Int.reduceLT, Int.reduceLE, Int.reduceGT, Int.reduceGE, Int.reduceBEq, Int.reduceBNe, ↓reduceIte] at h120
                  obtain ⟨h121, h⟩ := F_gd h
                  try simp (disch := first | assumption | (simp; done) | omega | (simp; omega)) only [push_cast, reduceCtorEq, Nat.reduceEqDiff, Nat.reduceAdd, Nat.reduceSub, Nat.reduceMul, Nat.reduceLeDiff, Nat.reduceLT, Int.reduceEq, Int.reduceNe, Int.reduceLT, Int.reduceLE, Int.reduceGT, Int.reduceGE, Int.reduceBEq, Int.reduceBNe, ↓reduceIte] at h121
                  obtain ⟨h122, h⟩ := F_ck h
                  try simp (disch := first | assumption | (simp; done) | omega | (simp; omega)) only [push_cast, reduceCtorEq, Nat.reduceEqDiff, Nat.reduceAdd, Nat.reduceSub, Nat.reduceMul, Nat.reduceLeDiff, Nat.reduceLT, Int.reduceEq, Int.reduceNe, Int.reduceLT, Int.reduceLE, Int.reduceGT, Int.reduceGE, Int.reduceBEq, Int.reduceBNe, ↓reduceIte] at h122
                  simp (config := { maxSteps := 1000000 }) (disch := first | assumption | (simp; done) | omega | (simp; omega)) only [push_cast, reduceCtorEq, Nat.reduceEqDiff, Nat.reduceAdd, Nat.reduceSub, Nat.reduceMul, Nat.reduceLeDiff, Nat.reduceLT, Int.reduceEq, Int.reduceNe, Int.reduceLT, Int.reduceLE, Int.reduceGT, Int.reduceGE, Int.reduceBEq, Int.reduceBNe, ↓reduceIte, h108, h109, h111, h112, h114, h115, h116, h118, h119, h120, h121, h122]
                  refine lpK_of m1 [0, 1, 3, 4, 5, 43, 47, 50, 60] [0, 1, 2, 6] (by omega) (by decide) ⟨(a3 + 1), (a4 ++ [(Frame.mk false a3 x6)]), h, ?_⟩
                  rw [wk_mk]
                  simp (config := { maxSteps := 1000000 }) (disch := first | assumption | (simp; done) | omega | (simp; omega)) only [push_cast, reduceCtorEq, Nat.reduceEqDiff, Nat.reduceAdd, Nat.reduceSub, Nat.reduceMul, Nat.reduceLeDiff, Nat.reduceLT, Int.reduceEq, Int.reduceNe, Int.reduceLT, Int.reduceLE, Int.reduceGT, Int.reduceGE, Int.reduceBEq, Int.reduceBNe, ↓reduceIte, h108, h109, h111, h112, h114, h115, h116, h118, h119, h120, h121, h122] <;> rfl
              · try simp (disch := first | assumption | (simp; done) | omega | (simp; omega)) only [push_cast, reduceCtorEq, Nat.reduceEqDiff, Nat.reduceAdd, Nat.reduceSub, Nat.reduceMul, Nat.reduceLeDiff, Nat.reduceLT, Int.reduceEq, Int.reduceNe, Int.reduceLT, Int.reduceLE, Int.reduceGT, Int.reduceGE, Int.reduceBEq, Int.reduceBNe, ↓reduceIte] at h114
                obtain rfl := Option.some.inj h
                simp (config := { maxSteps := 1000000 }) (disch := first | assumption | (simp; done) | omega | (simp; omega)) only [push_cast, reduceCtorEq, Nat.reduceEqDiff, Nat.reduceAdd, Nat.reduceSub, Nat.reduceMul, Nat.reduceLeDiff, Nat.reduceLT, Int.reduceEq, Int.reduceNe, Int.reduceLT, Int.reduceLE, Int.reduceGT, Int.reduceGE, Int.reduceBEq, Int.reduceBNe, ↓reduceIte, h108, h109, h111, h112, h114]
                refine AEndW.of [3] (.inr rfl) (by decide) rfl ?_ rfl ?_
                · simp (config := { maxSteps := 1000000 }) (disch := first | assumption | (simp; done) | omega | (simp; omega)) only [push_cast, reduceCtorEq, Nat.reduceEqDiff, Nat.reduceAdd, Nat.reduceSub, Nat.reduceMul, Nat.reduceLeDiff, Nat.reduceLT, Int.reduceEq, Int.reduceNe, Int.reduceLT, Int.reduceLE, Int.reduceGT, Int.reduceGE, Int.reduceBEq, Int.reduceBNe, ↓reduceIte, h108, h109, h111, h112, h114] <;> rfl
                · simp (config := { maxSteps := 1000000 }) (disch := first | assumption | (simp; done) | omega | (simp; omega)) only [push_cast, reduceCtorEq, Nat.reduceEqDiff, Nat.reduceAdd, Nat.reduceSub, Nat.reduceMul, Nat.reduceLeDiff, Nat.reduceLT, Int.reduceEq, Int.reduceNe, Int.reduceLT, Int.reduceLE, Int.reduceGT, Int.reduceGE, Int.reduceBEq, Int.reduceBNe, ↓reduceIte, h108, h109, h111, h112, h114] <;> rfl
      · try simp (disch := first | assumption | (simp; done) | omega | (simp; omega)) only [push_cast, reduceCtorEq, Nat.reduceEqDiff, Nat.reduceAdd, Nat.reduceSub, Nat.reduceMul, Nat.reduceLeDiff, Nat.reduceLT, Int.reduceEq, Int.reduceNe, Int.reduceLT, Int.reduceLE, Int.reduceGT, Int.reduceGE, Int.reduceBEq, Int.reduceBNe, ↓reduceIte] at h111
        try simp (config := { maxSteps := 1000000 }) (disch := first | assumption | (simp; done) | omega | (simp; omega)) only [push_cast, reduceCtorEq, Nat.reduceEqDiff, Nat.reduceAdd, Nat.reduceSub, Nat.reduceMul, Nat.reduceLeDiff, Nat.reduceLT, Int.reduceEq, Int.reduceNe, Int.reduceLT, Int.reduceLE, Int.reduceGT, Int.reduceGE, Int.reduceBEq, Int.reduceBNe, ↓reduceIte, h108, h109, h111]
        rw [oY_N (by rfl)]
        simp (config := { maxSteps := 1000000 }) (disch := first | assumption | (simp; done) | omega | (simp; omega)) only [push_cast, reduceCtorEq, Nat.reduceEqDiff, Nat.reduceAdd, Nat.reduceSub, Nat.reduceMul, Nat.reduceLeDiff, Nat.reduceLT, Int.reduceEq, Int.reduceNe, Int.reduceLT, Int.reduceLE, Int.reduceGT, Int.reduceGE, Int.reduceBEq, Int.reduceBNe, ↓reduceIte, h108, h109, h111]
        refine loop_ownB (.O 2) [.fl []] 0 3 (by rfl) (by rfl) ?_
        simp (config := { maxSteps := 1000000 }) (disch := first | assumption | (simp; done) | omega | (simp; omega)) only [push_cast, reduceCtorEq, Nat.reduceEqDiff, Nat.reduceAdd, Nat.reduceSub, Nat.reduceMul, Nat.reduceLeDiff, Nat.reduceLT, Int.reduceEq, Int.reduceNe, Int.reduceLT, Int.reduceLE, Int.reduceGT, Int.reduceGE, Int.reduceBEq, Int.reduceBNe, ↓reduceIte, h108, h109, h111]
        refine loop_of (I12_0 N p1 v2 y1 _) N [0, 1, 3, 4, 5, 43, 47, 50, 60] [1, 2, 3, 4] (by decide) ⟨(max v2.Acked v2.Base), [], h, ?_⟩ ?_
        · rw [wk_mk]
          simp (config := { maxSteps := 1000000 }) (disch := first | assumption | (simp; done) | omega | (simp; omega)) only [push_cast, reduceCtorEq, Nat.reduceEqDiff, Nat.reduceAdd, Nat.reduceSub, Nat.reduceMul, Nat.reduceLeDiff, Nat.reduceLT, Int.reduceEq, Int.reduceNe, Int.reduceLT, Int.reduceLE, Int.reduceGT, Int.reduceGE, Int.reduceBEq, Int.reduceBNe, ↓reduceIte, h108, h109, h111] <;> rfl
        · rintro n s ⟨a7, a8, h, rfl⟩
          cases n with
          | zero => exact absurd h (by simp [L12_0])
          | succ m1 =>
            rw [L12_0] at h
            unfold f48yb5
            obtain ⟨v9, h123, h⟩ := F_bd h
            simp (config := { maxSteps := 1000000 }) (disch := first | assumption | (simp; done) | omega | (simp; omega)) only [push_cast, reduceCtorEq, Nat.reduceEqDiff, Nat.reduceAdd, Nat.reduceSub, Nat.reduceMul, Nat.reduceLeDiff, Nat.reduceLT, Int.reduceEq, Int.reduceNe, Int.reduceLT, Int.reduceLE, Int.reduceGT, Int.reduceGE, Int.reduceBEq, Int.reduceBNe, ↓reduceIte, h108, h109, h111]
            refine call_flat (by rfl) (c32 N _ _ h123) ?_ rfl ?_
            · simp (config := { maxSteps := 1000000 }) (disch := first | assumption | (simp; done) | omega | (simp; omega)) only [push_cast, reduceCtorEq, Nat.reduceEqDiff, Nat.reduceAdd, Nat.reduceSub, Nat.reduceMul, Nat.reduceLeDiff, Nat.reduceLT, Int.reduceEq, Int.reduceNe, Int.reduceLT, Int.reduceLE, Int.reduceGT, Int.reduceGE, Int.reduceBEq, Int.reduceBNe, ↓reduceIte, h108, h109, h111] <;> rfl
            rcases F_if h with ⟨h124, h⟩ | ⟨h124, h⟩
            · try simp (disch := first | assumption | (simp; done) | omega | (simp; omega)) only [push_cast, reduceCtorEq, Nat.reduceEqDiff, Nat.reduceAdd, Nat.reduceSub, Nat.reduceMul, Nat.reduceLeDiff, Nat.reduceLT, Int.reduceEq, Int.reduceNe, Int.reduceLT, Int.reduceLE, Int.reduceGT, Int.reduceGE, Int.reduceBEq, Int.reduceBNe, ↓reduceIte] at h124
              obtain ⟨h125, h⟩ := F_ck h
              try simp (disch := first | assumption | (simp; done) | omega | (simp; omega)) only [push_cast, reduceCtorEq, Nat.reduceEqDiff, Nat.reduceAdd, Nat.reduceSub, Nat.reduceMul, Nat.reduceLeDiff, Nat.reduceLT, Int.reduceEq, Int.reduceNe, Int.reduceLT, Int.reduceLE, Int.reduceGT, Int.reduceGE, Int.reduceBEq, Int.reduceBNe, ↓reduceIte] at h125
              obtain ⟨x10, h126, h127, h⟩ := F_get h
              have h129 := get_lt h126 h127
              have h128 := map_get rS h127
              try simp (disch := first | assumption | (simp; done) | omega | (simp; omega)) only [push_cast, reduceCtorEq, Nat.reduceEqDiff, Nat.reduceAdd, Nat.reduceSub, Nat.reduceMul, Nat.reduceLeDiff, Nat.reduceLT, Int.reduceEq, Int.reduceNe, Int.reduceLT, Int.reduceLE, Int.reduceGT, Int.reduceGE, Int.reduceBEq, Int.reduceBNe, ↓reduceIte] at h128
              try simp (disch := first | assumption | (simp; done) | omega | (simp; omega)) only [push_cast, reduceCtorEq, Nat.reduceEqDiff, Nat.reduceAdd, Nat.reduceSub, Nat.reduceMul, Nat.reduceLeDiff, Nat.reduceLT, Int.reduceEq, Int.reduceNe, Int.reduceLT, Int.reduceLE, Int.reduceGT, Int.reduceGE, Int.reduceBEq, Int.reduceBNe, ↓reduceIte] at h129
              rcases F_if h with ⟨h130, h⟩ | ⟨h130, h⟩
              · try simp (disch := first | assumption | (simp; done) | omega | (simp; omega)) only [push_cast, reduceCtorEq, Nat.reduceEqDiff, Nat.reduceAdd, Nat.reduceSub, Nat.reduceMul, Nat.reduceLeDiff, Nat.reduceLT, Int.reduceEq, Int.reduceNe, Int.reduceLT, Int.reduceLE, Int.reduceGT, Int.reduceGE, Int.reduceBEq, Int.reduceBNe, ↓reduceIte] at h130
                obtain rfl := Option.some.inj h
                simp (config := { maxSteps := 1000000 }) (disch := first | assumption | (simp; done) | omega | (simp; omega)) only [push_cast, reduceCtorEq, Nat.reduceEqDiff, Nat.reduceAdd, Nat.reduceSub, Nat.reduceMul, Nat.reduceLeDiff, Nat.reduceLT, Int.reduceEq, Int.reduceNe, Int.reduceLT, Int.reduceLE, Int.reduceGT, Int.reduceGE, Int.reduceBEq, Int.reduceBNe, ↓reduceIte, h108, h109, h111, h124, h125, h126, h128, h129, h130]
                refine AEndW.of [3] (.inr rfl) (by decide) rfl ?_ rfl ?_
                · simp (config := { maxSteps := 1000000 }) (disch := first | assumption | (simp; done) | omega | (simp; omega)) only [push_cast, reduceCtorEq, Nat.reduceEqDiff, Nat.reduceAdd, Nat.reduceSub, Nat.reduceMul, Nat.reduceLeDiff, Nat.reduceLT, Int.reduceEq, Int.reduceNe, Int.reduceLT, Int.reduceLE, Int.reduceGT, Int.reduceGE, Int.reduceBEq, Int.reduceBNe, ↓reduceIte, h108, h109, h111, h124, h125, h126, h128, h129, h130] <;> rfl
                · simp (config := { maxSteps := 1000000 }) (disch := first | assumption | (simp; done) | omega | (simp; omega)) only [push_cast, reduceCtorEq, Nat.reduceEqDiff, Nat.reduceAdd, Nat.reduceSub, Nat.reduceMul, Nat.reduceLeDiff, Nat.reduceLT, Int.reduceEq, Int.reduceNe, Int.reduceLT, Int.reduceLE, Int.reduceGT, Int.reduceGE, Int.reduceBEq, Int.reduceBNe, ↓reduceIte, h108, h109, h111, h124, h125, h126, h128, h129, h130] <;> rfl
              · try simp (disch := first | assumption | (simp; done) | omega | (simp; omega)) only [push_cast, reduceCtorEq, Nat.reduceEqDiff, Nat.reduceAdd, Nat.reduceSub, Nat.reduceMul, Nat.reduceLeDiff, Nat.reduceLT, Int.reduceEq, Int.reduceNe, Int.reduceLT, Int.reduceLE, Int.reduceGT, Int.reduceGE, Int.reduceBEq, Int.reduceBNe, ↓reduceIte] at h130
                obtain ⟨h131, h⟩ := F_gd h
                try simp (disch := first | assumption | (simp; done) | omega | (simp; omega)) only [push_cast, reduceCtorEq, Nat.reduceEqDiff, Nat.reduceAdd, Nat.reduceSub, Nat.reduceMul, Nat.reduceLeDiff, Nat.reduceLT, Int.reduceEq, Int.reduceNe, Int.reduceLT, Int.reduceLE, Int.reduceGT, Int.reduceGE, Int.reduceBEq, Int.reduceBNe, ↓reduceIte] at h131
                obtain ⟨h132, h⟩ := F_ck h
                try simp (disch := first | assumption | (simp; done) | omega | (simp; omega)) only [push_cast, reduceCtorEq, Nat.reduceEqDiff, Nat.reduceAdd, Nat.reduceSub, Nat.reduceMul, Nat.reduceLeDiff, Nat.reduceLT, Int.reduceEq, Int.reduceNe, Int.reduceLT, Int.reduceLE, Int.reduceGT, Int.reduceGE, Int.reduceBEq, Int.reduceBNe, ↓reduceIte] at h132
                simp (config := { maxSteps := 1000000 }) (disch := first | assumption | (simp; done) | omega | (simp; omega)) only [push_cast, reduceCtorEq, Nat.reduceEqDiff, Nat.reduceAdd, Nat.reduceSub, Nat.reduceMul, Nat.reduceLeDiff, Nat.reduceLT, Int.reduceEq, Int.reduceNe, Int.reduceLT, Int.reduceLE, Int.reduceGT, Int.reduceGE, Int.reduceBEq, Int.reduceBNe, ↓reduceIte, h108, h109, h111, h124, h125, h126, h128, h129, h130, h131, h132]
                refine lpK_of m1 [0, 1, 3, 4, 5, 43, 47, 50, 60] [0, 1, 2, 6] (by omega) (by decide) ⟨(a7 + 1), (a8 ++ [(Frame.mk false a7 x10)]), h, ?_⟩
                rw [wk_mk]
                simp (config := { maxSteps := 1000000 }) (disch := first | assumption | (simp; done) | omega | (simp; omega)) only [push_cast, reduceCtorEq, Nat.reduceEqDiff, Nat.reduceAdd, Nat.reduceSub, Nat.reduceMul, Nat.reduceLeDiff, Nat.reduceLT, Int.reduceEq, Int.reduceNe, Int.reduceLT, Int.reduceLE, Int.reduceGT, Int.reduceGE, Int.reduceBEq, Int.reduceBNe, ↓reduceIte, h108, h109, h111, h124, h125, h126, h128, h129, h130, h131, h132] <;> rfl
            · try simp (disch := first | assumption | (simp; done) | omega | (simp; omega)) only [push_cast, reduceCtorEq, Nat.reduceEqDiff, Nat.reduceAdd, Nat.reduceSub, Nat.reduceMul, Nat.reduceLeDiff, Nat.reduceLT, Int.reduceEq, Int.reduceNe, Int.reduceLT, Int.reduceLE, Int.reduceGT, Int.reduceGE, Int.reduceBEq, Int.reduceBNe, ↓reduceIte] at h124
              obtain rfl := Option.some.inj h
              simp (config := { maxSteps := 1000000 }) (disch := first | assumption | (simp; done) | omega | (simp; omega)) only [push_cast, reduceCtorEq, Nat.reduceEqDiff, Nat.reduceAdd, Nat.reduceSub, Nat.reduceMul, Nat.reduceLeDiff, Nat.reduceLT, Int.reduceEq, Int.reduceNe, Int.reduceLT, Int.reduceLE, Int.reduceGT, Int.reduceGE, Int.reduceBEq, Int.reduceBNe, ↓reduceIte, h108, h109, h111, h124]
              refine AEndW.of [3] (.inr rfl) (by decide) rfl ?_ rfl ?_
              · simp (config := { maxSteps := 1000000 }) (disch := first | assumption | (simp; done) | omega | (simp; omega)) only [push_cast, reduceCtorEq, Nat.reduceEqDiff, Nat.reduceAdd, Nat.reduceSub, Nat.reduceMul, Nat.reduceLeDiff, Nat.reduceLT, Int.reduceEq, Int.reduceNe, Int.reduceLT, Int.reduceLE, Int.reduceGT, Int.reduceGE, Int.reduceBEq, Int.reduceBNe, ↓reduceIte, h108, h109, h111, h124] <;> rfl
              · simp (config := { maxSteps := 1000000 }) (disch := first | assumption | (simp; done) | omega | (simp; omega)) only [push_cast, reduceCtorEq, Nat.reduceEqDiff, Nat.reduceAdd, Nat.reduceSub, Nat.reduceMul, Nat.reduceLeDiff, Nat.reduceLT, Int.reduceEq, Int.reduceNe, Int.reduceLT, Int.reduceLE, Int.reduceGT, Int.reduceGE, Int.reduceBEq, Int.reduceBNe, ↓reduceIte, h108, h109, h111, h124] <;> rfl
  · try simp (disch := first | assumption | (simp; done) | omega | (simp; omega)) only [push_cast, reduceCtorEq, Nat.reduceEqDiff, Nat.reduceAdd, Nat.reduceSub, Nat.reduceMul, Nat.reduceLeDiff, Nat.reduceLT, Int.reduceEq, Int.reduceNe, Int.reduceLT, Int.reduceLE, Int.reduceGT, Int.reduceGE, Int.reduceBEq, Int.reduceBNe, ↓reduceIte] at h108
    obtain rfl := Option.some.inj h
    simp (config := { maxSteps := 1000000 }) (disch := first | assumption | (simp; done) | omega | (simp; omega)) only [push_cast, reduceCtorEq, Nat.reduceEqDiff, Nat.reduceAdd, Nat.reduceSub, Nat.reduceMul, Nat.reduceLeDiff, Nat.reduceLT, Int.reduceEq, Int.reduceNe, Int.reduceLT, Int.reduceLE, Int.reduceGT, Int.reduceGE, Int.reduceBEq, Int.reduceBNe, ↓reduceIte, h108]
    refine end_own0 4 3 rfl ?_
    simp (config := { maxSteps := 1000000 }) (disch := first | assumption | (simp; done) | omega | (simp; omega)) only [push_cast, reduceCtorEq, Nat.reduceEqDiff, Nat.reduceAdd, Nat.reduceSub, Nat.reduceMul, Nat.reduceLeDiff, Nat.reduceLT, Int.reduceEq, Int.reduceNe, Int.reduceLT, Int.reduceLE, Int.reduceGT, Int.reduceGE, Int.reduceBEq, Int.reduceBNe, ↓reduceIte, h108]
    refine AEndW.of [2] (.inr rfl) (by decide) rfl ?_ rfl ?_
    · simp (config := { maxSteps := 1000000 }) (disch := first | assumption | (simp; done) | omega | (simp; omega)) only [push_cast, reduceCtorEq, Nat.reduceEqDiff, Nat.reduceAdd, Nat.reduceSub, Nat.reduceMul, Nat.reduceLeDiff, Nat.reduceLT, Int.reduceEq, Int.reduceNe, Int.reduceLT, Int.reduceLE, Int.reduceGT, Int.reduceGE, Int.reduceBEq, Int.reduceBNe, ↓reduceIte, h108] <;> rfl
    · simp (config := { maxSteps := 1000000 }) (disch := first | assumption | (simp; done) | omega | (simp; omega)) only [push_cast, reduceCtorEq, Nat.reduceEqDiff, Nat.reduceAdd, Nat.reduceSub, Nat.reduceMul, Nat.reduceLeDiff, Nat.reduceLT, Int.reduceEq, Int.reduceNe, Int.reduceLT, Int.reduceLE, Int.reduceGT, Int.reduceGE, Int.reduceBEq, Int.reduceBNe, ↓reduceIte, h108] <;> rfl

/-! ## 22 rivermark.link.ValidIn -/
def f22g0 : List RO :=
  [⟨(.some 1), (.box (.tmp 0)), .none⟩,
   ⟨(.some 2), (.mv (.const (.bool .false))), .none⟩]
def f22g1 : List RO :=
  [⟨(.some 6), (.faddr 0 (.tmp 1)), .none⟩,
   ⟨(.some 7), (.load .none (.tmp 6)), .none⟩,
   ⟨(.some 3), (.mv (.tmp 7)), .none⟩]
def f22g2 : List RO :=
  [⟨(.some 8), (.faddr 1 (.tmp 1)), .none⟩,
   ⟨(.some 9), (.load .none (.tmp 8)), .none⟩,
   ⟨(.some 10), (.len .false (.tmp 9)), .none⟩,
   ⟨(.some 11), (.mv (.const (.int .i64 0))), .none⟩]
def f22g3 : List RO :=
  [⟨(.some 12), (.bin .lss (.tmp 11) (.tmp 10)), .none⟩]
def f22g4 : List RO :=
  [⟨(.some 13), (.iaddr 3 (.tmp 9) (.tmp 11)), .none⟩,
   ⟨(.some 14), (.load (.some 3) (.tmp 13)), .none⟩,
   ⟨(.some 5), (.new [(.D (.B .false)), (.D (.I .i64 0)), (.D (.S []))]), .none⟩,
   ⟨.none, (.store 3 (.tmp 5) (.tmp 14)), .none⟩]
def f22g5 : List RO :=
  [⟨(.some 15), (.faddr 0 (.tmp 5)), .none⟩,
   ⟨(.some 16), (.load .none (.tmp 15)), .none⟩,
   ⟨(.some 17), (.mv (.tmp 16)), .none⟩,
   ⟨(.some 18), (.faddr 1 (.tmp 5)), (.some (17, .false))⟩,
   ⟨(.some 19), (.load .none (.tmp 18)), (.some (17, .false))⟩,
   ⟨(.some 20), (.mv (.tmp 3)), (.some (17, .false))⟩,
   ⟨(.some 21), (.bin .leq (.tmp 19) (.tmp 20)), (.some (17, .false))⟩,
   ⟨(.some 22), (.pick (.tmp 17) (.const (.bool .true)) (.tmp 21)), .none⟩,
   ⟨(.some 23), (.mv (.tmp 22)), .none⟩,
   ⟨(.some 24), (.faddr 1 (.tmp 5)), (.some (23, .false))⟩,
   ⟨(.some 25), (.load .none (.tmp 24)), (.some (23, .false))⟩,
   ⟨(.some 26), (.bin .gtr (.tmp 25) (.const (.int .i64 2199023255552))), (.some (23, .false))⟩,
   ⟨(.some 27), (.pick (.tmp 23) (.const (.bool .true)) (.tmp 26)), .none⟩,
   ⟨(.some 28), (.mv (.tmp 27)), .none⟩,
   ⟨(.some 29), (.faddr 2 (.tmp 5)), (.some (28, .false))⟩,
   ⟨(.some 30), (.load .none (.tmp 29)), (.some (28, .false))⟩,
   ⟨(.some 31), (.call (.func 31) [(.tmp 30)]), (.some (28, .false))⟩,
   ⟨(.some 32), (.un .not (.tmp 31)), (.some (28, .false))⟩,
   ⟨(.some 33), (.pick (.tmp 28) (.const (.bool .true)) (.tmp 32)), .none⟩]
def f22g6 : List RO :=
  [⟨(.some 2), (.mv (.const (.bool .false))), .none⟩]
def f22g7 : List RO :=
  [⟨(.some 34), (.faddr 1 (.tmp 5)), .none⟩,
   ⟨(.some 35), (.load .none (.tmp 34)), .none⟩,
   ⟨(.some 3), (.mv (.tmp 35)), .none⟩]
def f22g8 : List RO :=
  [⟨(.some 36), (.bin .add (.tmp 11) (.const (.int .i64 1))), .none⟩,
   ⟨(.some 11), (.mv (.tmp 36)), .none⟩]
def f22b9 : RCode := (.seq (.reg .false f22g3) (.seq (.cond (.tmp 12) .skip (.exit 0)) (.seq (.block 1 (.seq (.reg .false f22g4) (.seq (.seq (.reg .false f22g5) (.cond (.tmp 33) (.seq (.reg .false f22g6) .ret) .skip)) (.reg .false f22g7)))) (.reg .false f22g8))))
def f22g10 : List RO :=
  [⟨(.some 37), (.faddr 0 (.tmp 1)), .none⟩,
   ⟨(.some 38), (.load .none (.tmp 37)), .none⟩,
   ⟨(.some 39), (.call (.func 35) [(.tmp 38), (.const (.int .i64 2199023255552))]), .none⟩,
   ⟨(.some 40), (.mv (.tmp 39)), .none⟩,
   ⟨(.some 41), (.faddr 1 (.tmp 1)), (.some (40, .true))⟩,
   ⟨(.some 42), (.load .none (.tmp 41)), (.some (40, .true))⟩,
   ⟨(.some 43), (.len .false (.tmp 42)), (.some (40, .true))⟩,
   ⟨(.some 44), (.bin .leq (.tmp 43) (.const (.int .i64 64))), (.some (40, .true))⟩,
   ⟨(.some 45), (.pick (.tmp 40) (.tmp 44) (.const (.bool .false))), .none⟩,
   ⟨(.some 2), (.mv (.tmp 45)), .none⟩]
def f22c : RCode := (.seq (.reg .false f22g0) (.seq (.reg .false f22g1) (.seq (.seq (.reg .false f22g2) (.block 0 (.loop f22b9))) (.seq (.reg .false f22g10) .ret))))
def f22r : List RRes := [(.tmp 2)]
attribute [push_cast] f22g0 f22g1 f22g2 f22g3 f22g4 f22g5 f22g6 f22g7 f22g8 f22g10
def L22_0 (N : Nat) (p0 : Inbox) : Nat → Int → Int → Option Bool
  | 0, _, _ => none
  | m1+1, a1, a2 => if? (decide (a2 < (p0.Ahead.length : Int))) (get? p0.Ahead (a2) fun x3 => if? (x3.Sum) (some (false)) (if? (decide (x3.Seq ≤ a1)) (some (false)) (if? (decide (x3.Seq > 2199023255552)) (some (false)) (bd? (F31 N x3.Body) fun v4 => if? (v4) (ck .i64 (a2 + 1) (L22_0 N p0 m1 x3.Seq (a2 + 1))) (some (false)))))) (bd? (F35 N p0.Next 2199023255552) fun v5 => if? (v5) (some (decide ((p0.Ahead.length : Int) ≤ 64))) (some (false)))
def I22_0 (N : Nat) (p0 : Inbox) (r : Bool) (n : Nat) (s : AState) : Prop := ∃ (a1 : Int) (a2 : Int), L22_0 N p0 n a1 a2 = some r ∧ s = ⟨envL [(1, .ptr (.O 0) 0), (3, .D (.I .i64 a1)), (9, .D (.L (p0.Ahead.map Frame.row))), (10, .D (.I .i64 (p0.Ahead.length : Int))), (11, .D (.I .i64 a2))], ownL [], ownL [some (.box [.D (.I .i64 p0.Next), .D (.L (p0.Ahead.map Frame.row))])], 1⟩
def F22 (N : Nat) (p0 : Inbox) : Option Bool := L22_0 N p0 N p0.Next 0
theorem c22 (N : Nat) (p0 : Inbox) (r : Bool) (h : F22 N p0 = some r) : ACall Try.prog 22 [.agg [.D (.I .i64 p0.Next), .D (.L (p0.Ahead.map Frame.row))]] [] (.D (.B r)) [] [] := by
  refine ACall.of_bodyW [] (fn := Try.f22) (rc := f22c) (rs := f22r) Try.func22 rfl rfl (by kernel_rfl) (by kernel_rfl) (by kernel_rfl) (by rw [Try.ntmps22]; simp) ?_
  unfold F22 at h
  unfold f22c f22r
  rw [entry_eq _ _]
  simp (config := { maxSteps := 1000000 }) (disch := first | assumption | (simp; done) | omega | (simp; omega)) only [push_cast, reduceCtorEq, Nat.reduceEqDiff, Nat.reduceAdd, Nat.reduceSub, Nat.reduceMul, Nat.reduceLeDiff, Nat.reduceLT, Int.reduceEq, Int.reduceNe, Int.reduceLT, Int.reduceLE, Int.reduceGT, Int.reduceGE, Int.reduceBEq, Int.reduceBNe, ↓reduceIte]
  refine loop_of (I22_0 N p0 _) N [1, 3, 9, 10, 11] [0] (by decide) ⟨p0.Next, 0, h, ?_⟩ ?_
  · rw [wk_mk]
    simp (config := { maxSteps := 1000000 }) (disch := first | assumption | (simp; done) | omega | (simp; omega)) only [push_cast, reduceCtorEq, Nat.reduceEqDiff, Nat.reduceAdd, Nat.reduceSub, Nat.reduceMul, Nat.reduceLeDiff, Nat.reduceLT, Int.reduceEq, Int.reduceNe, Int.reduceLT, Int.reduceLE, Int.reduceGT, Int.reduceGE, Int.reduceBEq, Int.reduceBNe, ↓reduceIte] <;> rfl
  · rintro n s ⟨a1, a2, h, rfl⟩
    cases n with
    | zero => exact absurd h (by simp [L22_0])
    | succ m1 =>
      rw [L22_0] at h
      unfold f22b9
      rcases F_if h with ⟨h133, h⟩ | ⟨h133, h⟩
      · try simp (disch := first | assumption | (simp; done) | omega | (simp; omega)) only [push_cast, reduceCtorEq, Nat.reduceEqDiff, Nat.reduceAdd, Nat.reduceSub, Nat.reduceMul, Nat.reduceLeDiff, Nat.reduceLT, Int.reduceEq, Int.reduceNe, Int.reduceLT, Int.reduceLE, Int.reduceGT, Int.reduceGE, Int.reduceBEq, Int.reduceBNe, ↓reduceIte] at h133
        obtain ⟨x3, h134, h135, h⟩ := F_get h
        have h137 := get_lt h134 h135
        have h136 := map_get Frame.row h135
        try simp (disch := first | assumption | (simp; done) | omega | (simp; omega)) only [push_cast, reduceCtorEq, Nat.reduceEqDiff, Nat.reduceAdd, Nat.reduceSub, Nat.reduceMul, Nat.reduceLeDiff, Nat.reduceLT, Int.reduceEq, Int.reduceNe, Int.reduceLT, Int.reduceLE, Int.reduceGT, Int.reduceGE, Int.reduceBEq, Int.reduceBNe, ↓reduceIte] at h136
        try simp (disch := first | assumption | (simp; done) | omega | (simp; omega)) only [push_cast, reduceCtorEq, Nat.reduceEqDiff, Nat.reduceAdd, Nat.reduceSub, Nat.reduceMul, Nat.reduceLeDiff, Nat.reduceLT, Int.reduceEq, Int.reduceNe, Int.reduceLT, Int.reduceLE, Int.reduceGT, Int.reduceGE, Int.reduceBEq, Int.reduceBNe, ↓reduceIte] at h137
        rcases F_if h with ⟨h138, h⟩ | ⟨h138, h⟩
        · try simp (disch := first | assumption | (simp; done) | omega | (simp; omega)) only [push_cast, reduceCtorEq, Nat.reduceEqDiff, Nat.reduceAdd, Nat.reduceSub, Nat.reduceMul, Nat.reduceLeDiff, Nat.reduceLT, Int.reduceEq, Int.reduceNe, Int.reduceLT, Int.reduceLE, Int.reduceGT, Int.reduceGE, Int.reduceBEq, Int.reduceBNe, ↓reduceIte] at h138
          obtain rfl := Option.some.inj h
          simp (config := { maxSteps := 1000000 }) (disch := first | assumption | (simp; done) | omega | (simp; omega)) only [push_cast, reduceCtorEq, Nat.reduceEqDiff, Nat.reduceAdd, Nat.reduceSub, Nat.reduceMul, Nat.reduceLeDiff, Nat.reduceLT, Int.reduceEq, Int.reduceNe, Int.reduceLT, Int.reduceLE, Int.reduceGT, Int.reduceGE, Int.reduceBEq, Int.reduceBNe, ↓reduceIte, h133, h134, h136, h137, h138]
          refine e_ret (.inr rfl) ?_
          simp (config := { maxSteps := 1000000 }) (disch := first | assumption | (simp; done) | omega | (simp; omega)) only [push_cast, reduceCtorEq, Nat.reduceEqDiff, Nat.reduceAdd, Nat.reduceSub, Nat.reduceMul, Nat.reduceLeDiff, Nat.reduceLT, Int.reduceEq, Int.reduceNe, Int.reduceLT, Int.reduceLE, Int.reduceGT, Int.reduceGE, Int.reduceBEq, Int.reduceBNe, ↓reduceIte, aret, aresults, aresult, h133, h134, h136, h137, h138]
          refine ⟨_, rfl, ?_⟩
          first | (simp (config := { maxSteps := 1000000 }) (disch := first | assumption | (simp; done) | omega | (simp; omega)) only [push_cast, reduceCtorEq, Nat.reduceEqDiff, Nat.reduceAdd, Nat.reduceSub, Nat.reduceMul, Nat.reduceLeDiff, Nat.reduceLT, Int.reduceEq, Int.reduceNe, Int.reduceLT, Int.reduceLE, Int.reduceGT, Int.reduceGE, Int.reduceBEq, Int.reduceBNe, ↓reduceIte, h133, h134, h136, h137, h138] <;> rfl) | rfl
        · try simp (disch := first | assumption | (simp; done) | omega | (simp; omega)) only [push_cast, reduceCtorEq, Nat.reduceEqDiff, Nat.reduceAdd, Nat.reduceSub, Nat.reduceMul, Nat.reduceLeDiff, Nat.reduceLT, Int.reduceEq, Int.reduceNe, Int.reduceLT, Int.reduceLE, Int.reduceGT, Int.reduceGE, Int.reduceBEq, Int.reduceBNe, ↓reduceIte] at h138
          rcases F_if h with ⟨h139, h⟩ | ⟨h139, h⟩
          · try simp (disch := first | assumption | (simp; done) | omega | (simp; omega)) only [push_cast, reduceCtorEq, Nat.reduceEqDiff, Nat.reduceAdd, Nat.reduceSub, Nat.reduceMul, Nat.reduceLeDiff, Nat.reduceLT, Int.reduceEq, Int.reduceNe, Int.reduceLT, Int.reduceLE, Int.reduceGT, Int.reduceGE, Int.reduceBEq, Int.reduceBNe, ↓reduceIte] at h139
            obtain rfl := Option.some.inj h
            simp (config := { maxSteps := 1000000 }) (disch := first | assumption | (simp; done) | omega | (simp; omega)) only [push_cast, reduceCtorEq, Nat.reduceEqDiff, Nat.reduceAdd, Nat.reduceSub, Nat.reduceMul, Nat.reduceLeDiff, Nat.reduceLT, Int.reduceEq, Int.reduceNe, Int.reduceLT, Int.reduceLE, Int.reduceGT, Int.reduceGE, Int.reduceBEq, Int.reduceBNe, ↓reduceIte, h133, h134, h136, h137, h138, h139]
            refine e_ret (.inr rfl) ?_
            simp (config := { maxSteps := 1000000 }) (disch := first | assumption | (simp; done) | omega | (simp; omega)) only [push_cast, reduceCtorEq, Nat.reduceEqDiff, Nat.reduceAdd, Nat.reduceSub, Nat.reduceMul, Nat.reduceLeDiff, Nat.reduceLT, Int.reduceEq, Int.reduceNe, Int.reduceLT, Int.reduceLE, Int.reduceGT, Int.reduceGE, Int.reduceBEq, Int.reduceBNe, ↓reduceIte, aret, aresults, aresult, h133, h134, h136, h137, h138, h139]
            refine ⟨_, rfl, ?_⟩
            first | (simp (config := { maxSteps := 1000000 }) (disch := first | assumption | (simp; done) | omega | (simp; omega)) only [push_cast, reduceCtorEq, Nat.reduceEqDiff, Nat.reduceAdd, Nat.reduceSub, Nat.reduceMul, Nat.reduceLeDiff, Nat.reduceLT, Int.reduceEq, Int.reduceNe, Int.reduceLT, Int.reduceLE, Int.reduceGT, Int.reduceGE, Int.reduceBEq, Int.reduceBNe, ↓reduceIte, h133, h134, h136, h137, h138, h139] <;> rfl) | rfl
          · try simp (disch := first | assumption | (simp; done) | omega | (simp; omega)) only [push_cast, reduceCtorEq, Nat.reduceEqDiff, Nat.reduceAdd, Nat.reduceSub, Nat.reduceMul, Nat.reduceLeDiff, Nat.reduceLT, Int.reduceEq, Int.reduceNe, Int.reduceLT, Int.reduceLE, Int.reduceGT, Int.reduceGE, Int.reduceBEq, Int.reduceBNe, ↓reduceIte] at h139
            rcases F_if h with ⟨h140, h⟩ | ⟨h140, h⟩
            · try simp (disch := first | assumption | (simp; done) | omega | (simp; omega)) only [push_cast, reduceCtorEq, Nat.reduceEqDiff, Nat.reduceAdd, Nat.reduceSub, Nat.reduceMul, Nat.reduceLeDiff, Nat.reduceLT, Int.reduceEq, Int.reduceNe, Int.reduceLT, Int.reduceLE, Int.reduceGT, Int.reduceGE, Int.reduceBEq, Int.reduceBNe, ↓reduceIte] at h140
              obtain rfl := Option.some.inj h
              simp (config := { maxSteps := 1000000 }) (disch := first | assumption | (simp; done) | omega | (simp; omega)) only [push_cast, reduceCtorEq, Nat.reduceEqDiff, Nat.reduceAdd, Nat.reduceSub, Nat.reduceMul, Nat.reduceLeDiff, Nat.reduceLT, Int.reduceEq, Int.reduceNe, Int.reduceLT, Int.reduceLE, Int.reduceGT, Int.reduceGE, Int.reduceBEq, Int.reduceBNe, ↓reduceIte, h133, h134, h136, h137, h138, h139, h140]
              refine e_ret (.inr rfl) ?_
              simp (config := { maxSteps := 1000000 }) (disch := first | assumption | (simp; done) | omega | (simp; omega)) only [push_cast, reduceCtorEq, Nat.reduceEqDiff, Nat.reduceAdd, Nat.reduceSub, Nat.reduceMul, Nat.reduceLeDiff, Nat.reduceLT, Int.reduceEq, Int.reduceNe, Int.reduceLT, Int.reduceLE, Int.reduceGT, Int.reduceGE, Int.reduceBEq, Int.reduceBNe, ↓reduceIte, aret, aresults, aresult, h133, h134, h136, h137, h138, h139, h140]
              refine ⟨_, rfl, ?_⟩
              first | (simp (config := { maxSteps := 1000000 }) (disch := first | assumption | (simp; done) | omega | (simp; omega)) only [push_cast, reduceCtorEq, Nat.reduceEqDiff, Nat.reduceAdd, Nat.reduceSub, Nat.reduceMul, Nat.reduceLeDiff, Nat.reduceLT, Int.reduceEq, Int.reduceNe, Int.reduceLT, Int.reduceLE, Int.reduceGT, Int.reduceGE, Int.reduceBEq, Int.reduceBNe, ↓reduceIte, h133, h134, h136, h137, h138, h139, h140] <;> rfl) | rfl
            · try simp (disch := first | assumption | (simp; done) | omega | (simp; omega)) only [push_cast, reduceCtorEq, Nat.reduceEqDiff, Nat.reduceAdd, Nat.reduceSub, Nat.reduceMul, Nat.reduceLeDiff, Nat.reduceLT, Int.reduceEq, Int.reduceNe, Int.reduceLT, Int.reduceLE, Int.reduceGT, Int.reduceGE, Int.reduceBEq, Int.reduceBNe, ↓reduceIte] at h140
              obtain ⟨v4, h141, h⟩ := F_bd h
              simp (config := { maxSteps := 1000000 }) (disch := first | assumption | (simp; done) | omega | (simp; omega)) only [push_cast, reduceCtorEq, Nat.reduceEqDiff, Nat.reduceAdd, Nat.reduceSub, Nat.reduceMul, Nat.reduceLeDiff, Nat.reduceLT, Int.reduceEq, Int.reduceNe, Int.reduceLT, Int.reduceLE, Int.reduceGT, Int.reduceGE, Int.reduceBEq, Int.reduceBNe, ↓reduceIte, h133, h134, h136, h137, h138, h139, h140]
              refine call_flat (by rfl) (c31 N _ _ h141) ?_ rfl ?_
              · simp (config := { maxSteps := 1000000 }) (disch := first | assumption | (simp; done) | omega | (simp; omega)) only [push_cast, reduceCtorEq, Nat.reduceEqDiff, Nat.reduceAdd, Nat.reduceSub, Nat.reduceMul, Nat.reduceLeDiff, Nat.reduceLT, Int.reduceEq, Int.reduceNe, Int.reduceLT, Int.reduceLE, Int.reduceGT, Int.reduceGE, Int.reduceBEq, Int.reduceBNe, ↓reduceIte, h133, h134, h136, h137, h138, h139, h140] <;> rfl
              rcases F_if h with ⟨h142, h⟩ | ⟨h142, h⟩
              · try simp (disch := first | assumption | (simp; done) | omega | (simp; omega)) only [push_cast, reduceCtorEq, Nat.reduceEqDiff, Nat.reduceAdd, Nat.reduceSub, Nat.reduceMul, Nat.reduceLeDiff, Nat.reduceLT, Int.reduceEq, Int.reduceNe, Int.reduceLT, Int.reduceLE, Int.reduceGT, Int.reduceGE, Int.reduceBEq, Int.reduceBNe, ↓reduceIte] at h142
                obtain ⟨h143, h⟩ := F_ck h
                try simp (disch := first | assumption | (simp; done) | omega | (simp; omega)) only [push_cast, reduceCtorEq, Nat.reduceEqDiff, Nat.reduceAdd, Nat.reduceSub, Nat.reduceMul, Nat.reduceLeDiff, Nat.reduceLT, Int.reduceEq, Int.reduceNe, Int.reduceLT, Int.reduceLE, Int.reduceGT, Int.reduceGE, Int.reduceBEq, Int.reduceBNe, ↓reduceIte] at h143
                simp (config := { maxSteps := 1000000 }) (disch := first | assumption | (simp; done) | omega | (simp; omega)) only [push_cast, reduceCtorEq, Nat.reduceEqDiff, Nat.reduceAdd, Nat.reduceSub, Nat.reduceMul, Nat.reduceLeDiff, Nat.reduceLT, Int.reduceEq, Int.reduceNe, Int.reduceLT, Int.reduceLE, Int.reduceGT, Int.reduceGE, Int.reduceBEq, Int.reduceBNe, ↓reduceIte, h133, h134, h136, h137, h138, h139, h140, h142, h143]
                refine lpK_of m1 [1, 3, 9, 10, 11] [0] (by omega) (by decide) ⟨x3.Seq, (a2 + 1), h, ?_⟩
                rw [wk_mk]
                simp (config := { maxSteps := 1000000 }) (disch := first | assumption | (simp; done) | omega | (simp; omega)) only [push_cast, reduceCtorEq, Nat.reduceEqDiff, Nat.reduceAdd, Nat.reduceSub, Nat.reduceMul, Nat.reduceLeDiff, Nat.reduceLT, Int.reduceEq, Int.reduceNe, Int.reduceLT, Int.reduceLE, Int.reduceGT, Int.reduceGE, Int.reduceBEq, Int.reduceBNe, ↓reduceIte, h133, h134, h136, h137, h138, h139, h140, h142, h143] <;> rfl
              · try simp (disch := first | assumption | (simp; done) | omega | (simp; omega)) only [push_cast, reduceCtorEq, Nat.reduceEqDiff, Nat.reduceAdd, Nat.reduceSub, Nat.reduceMul, Nat.reduceLeDiff, Nat.reduceLT, Int.reduceEq, Int.reduceNe, Int.reduceLT, Int.reduceLE, Int.reduceGT, Int.reduceGE, Int.reduceBEq, Int.reduceBNe, ↓reduceIte] at h142
                obtain rfl := Option.some.inj h
                simp (config := { maxSteps := 1000000 }) (disch := first | assumption | (simp; done) | omega | (simp; omega)) only [push_cast, reduceCtorEq, Nat.reduceEqDiff, Nat.reduceAdd, Nat.reduceSub, Nat.reduceMul, Nat.reduceLeDiff, Nat.reduceLT, Int.reduceEq, Int.reduceNe, Int.reduceLT, Int.reduceLE, Int.reduceGT, Int.reduceGE, Int.reduceBEq, Int.reduceBNe, ↓reduceIte, h133, h134, h136, h137, h138, h139, h140, h142]
                refine e_ret (.inr rfl) ?_
                simp (config := { maxSteps := 1000000 }) (disch := first | assumption | (simp; done) | omega | (simp; omega)) only [push_cast, reduceCtorEq, Nat.reduceEqDiff, Nat.reduceAdd, Nat.reduceSub, Nat.reduceMul, Nat.reduceLeDiff, Nat.reduceLT, Int.reduceEq, Int.reduceNe, Int.reduceLT, Int.reduceLE, Int.reduceGT, Int.reduceGE, Int.reduceBEq, Int.reduceBNe, ↓reduceIte, aret, aresults, aresult, h133, h134, h136, h137, h138, h139, h140, h142]
                refine ⟨_, rfl, ?_⟩
                first | (simp (config := { maxSteps := 1000000 }) (disch := first | assumption | (simp; done) | omega | (simp; omega)) only [push_cast, reduceCtorEq, Nat.reduceEqDiff, Nat.reduceAdd, Nat.reduceSub, Nat.reduceMul, Nat.reduceLeDiff, Nat.reduceLT, Int.reduceEq, Int.reduceNe, Int.reduceLT, Int.reduceLE, Int.reduceGT, Int.reduceGE, Int.reduceBEq, Int.reduceBNe, ↓reduceIte, h133, h134, h136, h137, h138, h139, h140, h142] <;> rfl) | rfl
      · try simp (disch := first | assumption | (simp; done) | omega | (simp; omega)) only [push_cast, reduceCtorEq, Nat.reduceEqDiff, Nat.reduceAdd, Nat.reduceSub, Nat.reduceMul, Nat.reduceLeDiff, Nat.reduceLT, Int.reduceEq, Int.reduceNe, Int.reduceLT, Int.reduceLE, Int.reduceGT, Int.reduceGE, Int.reduceBEq, Int.reduceBNe, ↓reduceIte] at h133
        obtain ⟨v5, h144, h⟩ := F_bd h
        simp (config := { maxSteps := 1000000 }) (disch := first | assumption | (simp; done) | omega | (simp; omega)) only [push_cast, reduceCtorEq, Nat.reduceEqDiff, Nat.reduceAdd, Nat.reduceSub, Nat.reduceMul, Nat.reduceLeDiff, Nat.reduceLT, Int.reduceEq, Int.reduceNe, Int.reduceLT, Int.reduceLE, Int.reduceGT, Int.reduceGE, Int.reduceBEq, Int.reduceBNe, ↓reduceIte, h133]
        refine call_flat (by rfl) (c35 N _ _ _ h144) ?_ rfl ?_
        · simp (config := { maxSteps := 1000000 }) (disch := first | assumption | (simp; done) | omega | (simp; omega)) only [push_cast, reduceCtorEq, Nat.reduceEqDiff, Nat.reduceAdd, Nat.reduceSub, Nat.reduceMul, Nat.reduceLeDiff, Nat.reduceLT, Int.reduceEq, Int.reduceNe, Int.reduceLT, Int.reduceLE, Int.reduceGT, Int.reduceGE, Int.reduceBEq, Int.reduceBNe, ↓reduceIte, h133] <;> rfl
        rcases F_if h with ⟨h145, h⟩ | ⟨h145, h⟩
        · try simp (disch := first | assumption | (simp; done) | omega | (simp; omega)) only [push_cast, reduceCtorEq, Nat.reduceEqDiff, Nat.reduceAdd, Nat.reduceSub, Nat.reduceMul, Nat.reduceLeDiff, Nat.reduceLT, Int.reduceEq, Int.reduceNe, Int.reduceLT, Int.reduceLE, Int.reduceGT, Int.reduceGE, Int.reduceBEq, Int.reduceBNe, ↓reduceIte] at h145
          obtain rfl := Option.some.inj h
          simp (config := { maxSteps := 1000000 }) (disch := first | assumption | (simp; done) | omega | (simp; omega)) only [push_cast, reduceCtorEq, Nat.reduceEqDiff, Nat.reduceAdd, Nat.reduceSub, Nat.reduceMul, Nat.reduceLeDiff, Nat.reduceLT, Int.reduceEq, Int.reduceNe, Int.reduceLT, Int.reduceLE, Int.reduceGT, Int.reduceGE, Int.reduceBEq, Int.reduceBNe, ↓reduceIte, h133, h145]
          refine e_ret (.inr rfl) ?_
          simp (config := { maxSteps := 1000000 }) (disch := first | assumption | (simp; done) | omega | (simp; omega)) only [push_cast, reduceCtorEq, Nat.reduceEqDiff, Nat.reduceAdd, Nat.reduceSub, Nat.reduceMul, Nat.reduceLeDiff, Nat.reduceLT, Int.reduceEq, Int.reduceNe, Int.reduceLT, Int.reduceLE, Int.reduceGT, Int.reduceGE, Int.reduceBEq, Int.reduceBNe, ↓reduceIte, aret, aresults, aresult, h133, h145]
          refine ⟨_, rfl, ?_⟩
          first | (simp (config := { maxSteps := 1000000 }) (disch := first | assumption | (simp; done) | omega | (simp; omega)) only [push_cast, reduceCtorEq, Nat.reduceEqDiff, Nat.reduceAdd, Nat.reduceSub, Nat.reduceMul, Nat.reduceLeDiff, Nat.reduceLT, Int.reduceEq, Int.reduceNe, Int.reduceLT, Int.reduceLE, Int.reduceGT, Int.reduceGE, Int.reduceBEq, Int.reduceBNe, ↓reduceIte, h133, h145] <;> rfl) | rfl
        · try simp (disch := first | assumption | (simp; done) | omega | (simp; omega)) only [push_cast, reduceCtorEq, Nat.reduceEqDiff, Nat.reduceAdd, Nat.reduceSub, Nat.reduceMul, Nat.reduceLeDiff, Nat.reduceLT, Int.reduceEq, Int.reduceNe, Int.reduceLT, Int.reduceLE, Int.reduceGT, Int.reduceGE, Int.reduceBEq, Int.reduceBNe, ↓reduceIte] at h145
          obtain rfl := Option.some.inj h
          simp (config := { maxSteps := 1000000 }) (disch := first | assumption | (simp; done) | omega | (simp; omega)) only [push_cast, reduceCtorEq, Nat.reduceEqDiff, Nat.reduceAdd, Nat.reduceSub, Nat.reduceMul, Nat.reduceLeDiff, Nat.reduceLT, Int.reduceEq, Int.reduceNe, Int.reduceLT, Int.reduceLE, Int.reduceGT, Int.reduceGE, Int.reduceBEq, Int.reduceBNe, ↓reduceIte, h133, h145]
          refine e_ret (.inr rfl) ?_
          simp (config := { maxSteps := 1000000 }) (disch := first | assumption | (simp; done) | omega | (simp; omega)) only [push_cast, reduceCtorEq, Nat.reduceEqDiff, Nat.reduceAdd, Nat.reduceSub, Nat.reduceMul, Nat.reduceLeDiff, Nat.reduceLT, Int.reduceEq, Int.reduceNe, Int.reduceLT, Int.reduceLE, Int.reduceGT, Int.reduceGE, Int.reduceBEq, Int.reduceBNe, ↓reduceIte, aret, aresults, aresult, h133, h145]
          refine ⟨_, rfl, ?_⟩
          first | (simp (config := { maxSteps := 1000000 }) (disch := first | assumption | (simp; done) | omega | (simp; omega)) only [push_cast, reduceCtorEq, Nat.reduceEqDiff, Nat.reduceAdd, Nat.reduceSub, Nat.reduceMul, Nat.reduceLeDiff, Nat.reduceLT, Int.reduceEq, Int.reduceNe, Int.reduceLT, Int.reduceLE, Int.reduceGT, Int.reduceGE, Int.reduceBEq, Int.reduceBNe, ↓reduceIte, h133, h145] <;> rfl) | rfl

/-! ## 40 rivermark.link.Receive$1 -/
def f40g0 : List RO :=
  [⟨(.some 2), (.box (.tmp 0)), .none⟩,
   ⟨(.some 4), (.mv (.const (.int .i64 0))), .none⟩]
def f40g1 : List RO :=
  [⟨(.some 5), (.faddr 1 (.tmp 2)), .none⟩,
   ⟨(.some 6), (.load .none (.tmp 5)), .none⟩,
   ⟨(.some 7), (.mv (.tmp 1)), .none⟩,
   ⟨(.some 8), (.bin .sub (.tmp 6) (.tmp 7)), .none⟩,
   ⟨(.some 4), (.mv (.tmp 8)), .none⟩]
def f40c : RCode := (.seq (.reg .false f40g0) (.seq (.reg .false f40g1) .ret))
def f40r : List RRes := [(.tmp 4)]
attribute [push_cast] f40g0 f40g1
def F40 (N : Nat) (p0 : Frame) (p1 : Int) : Option Int := ck .i64 (p0.Seq - p1) (some ((p0.Seq - p1)))
theorem c40 (N : Nat) (p0 : Frame) (p1 : Int) (r : Int) (h : F40 N p0 p1 = some r) : ACall Try.prog 40 [.agg [.D (.B p0.Sum), .D (.I .i64 p0.Seq), .D (.S p0.Body)], .D (.I .i64 p1)] [] (.D (.I .i64 r)) [] [] := by
  refine ACall.of_bodyW [] (fn := Try.f40) (rc := f40c) (rs := f40r) Try.func40 rfl rfl (by kernel_rfl) (by kernel_rfl) (by kernel_rfl) (by rw [Try.ntmps40]; simp) ?_
  unfold F40 at h
  unfold f40c f40r
  rw [entry_eq _ _]
  obtain ⟨h146, h⟩ := F_ck h
  try simp (disch := first | assumption | (simp; done) | omega | (simp; omega)) only [push_cast, reduceCtorEq, Nat.reduceEqDiff, Nat.reduceAdd, Nat.reduceSub, Nat.reduceMul, Nat.reduceLeDiff, Nat.reduceLT, Int.reduceEq, Int.reduceNe, Int.reduceLT, Int.reduceLE, Int.reduceGT, Int.reduceGE, Int.reduceBEq, Int.reduceBNe, ↓reduceIte] at h146
  obtain rfl := Option.some.inj h
  simp (config := { maxSteps := 1000000 }) (disch := first | assumption | (simp; done) | omega | (simp; omega)) only [push_cast, reduceCtorEq, Nat.reduceEqDiff, Nat.reduceAdd, Nat.reduceSub, Nat.reduceMul, Nat.reduceLeDiff, Nat.reduceLT, Int.reduceEq, Int.reduceNe, Int.reduceLT, Int.reduceLE, Int.reduceGT, Int.reduceGE, Int.reduceBEq, Int.reduceBNe, ↓reduceIte, h146]
  refine e_ret (.inr rfl) ?_
  simp (config := { maxSteps := 1000000 }) (disch := first | assumption | (simp; done) | omega | (simp; omega)) only [push_cast, reduceCtorEq, Nat.reduceEqDiff, Nat.reduceAdd, Nat.reduceSub, Nat.reduceMul, Nat.reduceLeDiff, Nat.reduceLT, Int.reduceEq, Int.reduceNe, Int.reduceLT, Int.reduceLE, Int.reduceGT, Int.reduceGE, Int.reduceBEq, Int.reduceBNe, ↓reduceIte, aret, aresults, aresult, h146]
  refine ⟨_, rfl, ?_⟩
  first | (simp (config := { maxSteps := 1000000 }) (disch := first | assumption | (simp; done) | omega | (simp; omega)) only [push_cast, reduceCtorEq, Nat.reduceEqDiff, Nat.reduceAdd, Nat.reduceSub, Nat.reduceMul, Nat.reduceLeDiff, Nat.reduceLT, Int.reduceEq, Int.reduceNe, Int.reduceLT, Int.reduceLE, Int.reduceGT, Int.reduceGE, Int.reduceBEq, Int.reduceBNe, ↓reduceIte, h146] <;> rfl) | rfl

/-! ## 39 slices.BinarySearchFunc[[]rivermark.api.Frame,rivermark.api.Frame,int] -/
def f39g0 : List RO :=
  [⟨(.some 6), (.mv (.const (.int .i64 0))), .none⟩,
   ⟨(.some 7), (.mv (.const (.bool .false))), .none⟩]
def f39g1 : List RO :=
  [⟨(.some 12), (.mv (.tmp 0)), .none⟩,
   ⟨(.some 13), (.len .false (.tmp 12)), .none⟩,
   ⟨(.some 8), (.mv (.tmp 13)), .none⟩]
def f39g2 : List RO :=
  [⟨(.some 14), (.mv (.tmp 8)), .none⟩,
   ⟨(.some 9), (.mv (.const (.int .i64 0))), .none⟩,
   ⟨(.some 10), (.mv (.tmp 14)), .none⟩]
def f39g3 : List RO :=
  [⟨(.some 15), (.mv (.tmp 9)), .none⟩,
   ⟨(.some 16), (.mv (.tmp 10)), .none⟩,
   ⟨(.some 17), (.bin .lss (.tmp 15) (.tmp 16)), .none⟩]
def f39g4 : List RO :=
  [⟨(.some 18), (.mv (.tmp 9)), .none⟩,
   ⟨(.some 19), (.mv (.tmp 10)), .none⟩,
   ⟨(.some 20), (.bin .add (.tmp 18) (.tmp 19)), .none⟩,
   ⟨(.some 21), (.cvI .u64 (.tmp 20)), .none⟩,
   ⟨(.some 22), (.bin .shr (.tmp 21) (.const (.int .u64 1))), .none⟩,
   ⟨(.some 23), (.cvI .i64 (.tmp 22)), .none⟩,
   ⟨(.some 11), (.mv (.tmp 23)), .none⟩]
def f39g5 : List RO :=
  [⟨(.some 24), (.mv (.tmp 2)), .none⟩,
   ⟨(.some 25), (.mv (.tmp 0)), .none⟩,
   ⟨(.some 26), (.mv (.tmp 11)), .none⟩,
   ⟨(.some 27), (.iaddr 3 (.tmp 25) (.tmp 26)), .none⟩,
   ⟨(.some 28), (.load (.some 3) (.tmp 27)), .none⟩,
   ⟨(.some 29), (.mv (.tmp 1)), .none⟩,
   ⟨(.some 30), (.call (.tmp 24) [(.tmp 28), (.tmp 29)]), .none⟩,
   ⟨(.some 31), (.bin .lss (.tmp 30) (.const (.int .i64 0))), .none⟩]
def f39g6 : List RO :=
  [⟨(.some 32), (.mv (.tmp 11)), .none⟩,
   ⟨(.some 33), (.bin .add (.tmp 32) (.const (.int .i64 1))), .none⟩,
   ⟨(.some 9), (.mv (.tmp 33)), .none⟩]
def f39g7 : List RO :=
  [⟨(.some 34), (.mv (.tmp 11)), .none⟩,
   ⟨(.some 10), (.mv (.tmp 34)), .none⟩]
def f39b8 : RCode := (.seq (.seq (.reg .false f39g3) (.cond (.tmp 17) .skip (.exit 0))) (.block 1 (.seq (.reg .false f39g4) (.seq (.reg .false f39g5) (.cond (.tmp 31) (.reg .false f39g6) (.reg .false f39g7))))))
def f39g9 : List RO :=
  [⟨(.some 35), (.mv (.tmp 9)), .none⟩,
   ⟨(.some 36), (.mv (.tmp 9)), .none⟩,
   ⟨(.some 37), (.mv (.tmp 8)), .none⟩,
   ⟨(.some 38), (.bin .lss (.tmp 36) (.tmp 37)), .none⟩,
   ⟨(.some 39), (.mv (.tmp 38)), .none⟩,
   ⟨(.some 40), (.mv (.tmp 2)), (.some (39, .true))⟩,
   ⟨(.some 41), (.mv (.tmp 0)), (.some (39, .true))⟩,
   ⟨(.some 42), (.mv (.tmp 9)), (.some (39, .true))⟩,
   ⟨(.some 43), (.iaddr 3 (.tmp 41) (.tmp 42)), (.some (39, .true))⟩,
   ⟨(.some 44), (.load (.some 3) (.tmp 43)), (.some (39, .true))⟩,
   ⟨(.some 45), (.mv (.tmp 1)), (.some (39, .true))⟩,
   ⟨(.some 46), (.call (.tmp 40) [(.tmp 44), (.tmp 45)]), (.some (39, .true))⟩,
   ⟨(.some 47), (.bin .eql (.tmp 46) (.const (.int .i64 0))), (.some (39, .true))⟩,
   ⟨(.some 48), (.pick (.tmp 39) (.tmp 47) (.const (.bool .false))), .none⟩,
   ⟨(.some 6), (.mv (.tmp 35)), .none⟩,
   ⟨(.some 7), (.mv (.tmp 48)), .none⟩]
def f39c : RCode := (.seq (.reg .false f39g0) (.seq (.reg .false f39g1) (.seq (.reg .false f39g2) (.seq (.block 0 (.loop f39b8)) (.seq (.reg .false f39g9) .ret)))))
def f39r : List RRes := [(.tmp 6), (.tmp 7)]
attribute [push_cast] f39g0 f39g1 f39g2 f39g3 f39g4 f39g5 f39g6 f39g7 f39g9
def L39_0 (N : Nat) (p0 : (List Frame)) (p1 : Int) : Nat → Int → Int → Option (Int × Bool)
  | 0, _, _ => none
  | m1+1, a1, a2 => if? (decide (a1 < a2)) (ck .i64 (a1 + a2) (ck .i64 (((IntKind.wrap .u64 ((a1 + a2))) / 2 ^ (1 : Int).toNat)) (get? p0 ((((IntKind.wrap .u64 ((a1 + a2))) / 2 ^ (1 : Int).toNat))) fun x3 => bd? (F40 N x3 p1) fun v4 => if? (decide (v4 < 0)) (ck .i64 ((((IntKind.wrap .u64 ((a1 + a2))) / 2 ^ (1 : Int).toNat)) + 1) (L39_0 N p0 p1 m1 ((((IntKind.wrap .u64 ((a1 + a2))) / 2 ^ (1 : Int).toNat)) + 1) a2)) (L39_0 N p0 p1 m1 a1 (((IntKind.wrap .u64 ((a1 + a2))) / 2 ^ (1 : Int).toNat)))))) (if? (decide (a1 < (p0.length : Int))) (get? p0 (a1) fun x5 => bd? (F40 N x5 p1) fun v6 => some (a1, (v6 == 0))) (some (a1, false)))
def I39_0 (N : Nat) (p0 : (List Frame)) (p1 : Int) (r : (Int × Bool)) (n : Nat) (s : AState) : Prop := ∃ (a1 : Int) (a2 : Int), L39_0 N p0 p1 n a1 a2 = some r ∧ s = ⟨envL [(0, .D (.L (p0.map Frame.row))), (1, .D (.I .i64 p1)), (2, .clo 40 []), (8, .D (.I .i64 (p0.length : Int))), (9, .D (.I .i64 a1)), (10, .D (.I .i64 a2))], ownL [], ownL [], 0⟩
def F39 (N : Nat) (p0 : (List Frame)) (p1 : Int) : Option (Int × Bool) := L39_0 N p0 p1 N 0 (p0.length : Int)
theorem c39 (N : Nat) (p0 : (List Frame)) (p1 : Int) (r : (Int × Bool)) (h : F39 N p0 p1 = some r) : ACall Try.prog 39 [.D (.L (p0.map Frame.row)), .D (.I .i64 p1), .clo 40 []] [] (.tup [.D (.I .i64 r.1), .D (.B r.2)]) [] [] := by
  refine ACall.of_bodyW [] (fn := Try.f39) (rc := f39c) (rs := f39r) Try.func39 rfl rfl (by kernel_rfl) (by kernel_rfl) (by kernel_rfl) (by rw [Try.ntmps39]; simp) ?_
  unfold F39 at h
  unfold f39c f39r
  rw [entry_eq _ _]
  simp (config := { maxSteps := 1000000 }) (disch := first | assumption | (simp; done) | omega | (simp; omega)) only [push_cast, reduceCtorEq, Nat.reduceEqDiff, Nat.reduceAdd, Nat.reduceSub, Nat.reduceMul, Nat.reduceLeDiff, Nat.reduceLT, Int.reduceEq, Int.reduceNe, Int.reduceLT, Int.reduceLE, Int.reduceGT, Int.reduceGE, Int.reduceBEq, Int.reduceBNe, ↓reduceIte]
  refine loop_of (I39_0 N p0 p1 _) N [0, 1, 2, 8, 9, 10] [] (by decide) ⟨0, (p0.length : Int), h, ?_⟩ ?_
  · rw [wk_mk]
    simp (config := { maxSteps := 1000000 }) (disch := first | assumption | (simp; done) | omega | (simp; omega)) only [push_cast, reduceCtorEq, Nat.reduceEqDiff, Nat.reduceAdd, Nat.reduceSub, Nat.reduceMul, Nat.reduceLeDiff, Nat.reduceLT, Int.reduceEq, Int.reduceNe, Int.reduceLT, Int.reduceLE, Int.reduceGT, Int.reduceGE, Int.reduceBEq, Int.reduceBNe, ↓reduceIte] <;> rfl
  · rintro n s ⟨a1, a2, h, rfl⟩
    cases n with
    | zero => exact absurd h (by simp [L39_0])
    | succ m1 =>
      rw [L39_0] at h
      unfold f39b8
      rcases F_if h with ⟨h147, h⟩ | ⟨h147, h⟩
      · try simp (disch := first | assumption | (simp; done) | omega | (simp; omega)) only [push_cast, reduceCtorEq, Nat.reduceEqDiff, Nat.reduceAdd, Nat.reduceSub, Nat.reduceMul, Nat.reduceLeDiff, Nat.reduceLT, Int.reduceEq, Int.reduceNe, Int.reduceLT, Int.reduceLE, Int.reduceGT, Int.reduceGE, Int.reduceBEq, Int.reduceBNe, ↓reduceIte] at h147
        obtain ⟨h148, h⟩ := F_ck h
        try simp (disch := first | assumption | (simp; done) | omega | (simp; omega)) only [push_cast, reduceCtorEq, Nat.reduceEqDiff, Nat.reduceAdd, Nat.reduceSub, Nat.reduceMul, Nat.reduceLeDiff, Nat.reduceLT, Int.reduceEq, Int.reduceNe, Int.reduceLT, Int.reduceLE, Int.reduceGT, Int.reduceGE, Int.reduceBEq, Int.reduceBNe, ↓reduceIte] at h148
        obtain ⟨h149, h⟩ := F_ck h
        try simp (disch := first | assumption | (simp; done) | omega | (simp; omega)) only [push_cast, reduceCtorEq, Nat.reduceEqDiff, Nat.reduceAdd, Nat.reduceSub, Nat.reduceMul, Nat.reduceLeDiff, Nat.reduceLT, Int.reduceEq, Int.reduceNe, Int.reduceLT, Int.reduceLE, Int.reduceGT, Int.reduceGE, Int.reduceBEq, Int.reduceBNe, ↓reduceIte] at h149
        obtain ⟨x3, h150, h151, h⟩ := F_get h
        have h153 := get_lt h150 h151
        have h152 := map_get Frame.row h151
        try simp (disch := first | assumption | (simp; done) | omega | (simp; omega)) only [push_cast, reduceCtorEq, Nat.reduceEqDiff, Nat.reduceAdd, Nat.reduceSub, Nat.reduceMul, Nat.reduceLeDiff, Nat.reduceLT, Int.reduceEq, Int.reduceNe, Int.reduceLT, Int.reduceLE, Int.reduceGT, Int.reduceGE, Int.reduceBEq, Int.reduceBNe, ↓reduceIte] at h152
        try simp (disch := first | assumption | (simp; done) | omega | (simp; omega)) only [push_cast, reduceCtorEq, Nat.reduceEqDiff, Nat.reduceAdd, Nat.reduceSub, Nat.reduceMul, Nat.reduceLeDiff, Nat.reduceLT, Int.reduceEq, Int.reduceNe, Int.reduceLT, Int.reduceLE, Int.reduceGT, Int.reduceGE, Int.reduceBEq, Int.reduceBNe, ↓reduceIte] at h153
        obtain ⟨v4, h154, h⟩ := F_bd h
        simp (config := { maxSteps := 1000000 }) (disch := first | assumption | (simp; done) | omega | (simp; omega)) only [push_cast, reduceCtorEq, Nat.reduceEqDiff, Nat.reduceAdd, Nat.reduceSub, Nat.reduceMul, Nat.reduceLeDiff, Nat.reduceLT, Int.reduceEq, Int.reduceNe, Int.reduceLT, Int.reduceLE, Int.reduceGT, Int.reduceGE, Int.reduceBEq, Int.reduceBNe, ↓reduceIte, h147, h148, h149, h150, h152, h153]
        refine call_flat (by rfl) (c40 N _ _ _ h154) ?_ rfl ?_
        · simp (config := { maxSteps := 1000000 }) (disch := first | assumption | (simp; done) | omega | (simp; omega)) only [push_cast, reduceCtorEq, Nat.reduceEqDiff, Nat.reduceAdd, Nat.reduceSub, Nat.reduceMul, Nat.reduceLeDiff, Nat.reduceLT, Int.reduceEq, Int.reduceNe, Int.reduceLT, Int.reduceLE, Int.reduceGT, Int.reduceGE, Int.reduceBEq, Int.reduceBNe, ↓reduceIte, h147, h148, h149, h150, h152, h153] <;> rfl
        rcases F_if h with ⟨h155, h⟩ | ⟨h155, h⟩
        · try simp (disch := first | assumption | (simp; done) | omega | (simp; omega)) only [push_cast, reduceCtorEq, Nat.reduceEqDiff, Nat.reduceAdd, Nat.reduceSub, Nat.reduceMul, Nat.reduceLeDiff, Nat.reduceLT, Int.reduceEq, Int.reduceNe, Int.reduceLT, Int.reduceLE, Int.reduceGT, Int.reduceGE, Int.reduceBEq, Int.reduceBNe, ↓reduceIte] at h155
          obtain ⟨h156, h⟩ := F_ck h
          try simp (disch := first | assumption | (simp; done) | omega | (simp; omega)) only [push_cast, reduceCtorEq, Nat.reduceEqDiff, Nat.reduceAdd, Nat.reduceSub, Nat.reduceMul, Nat.reduceLeDiff, Nat.reduceLT, Int.reduceEq, Int.reduceNe, Int.reduceLT, Int.reduceLE, Int.reduceGT, Int.reduceGE, Int.reduceBEq, Int.reduceBNe, ↓reduceIte] at h156
          simp (config := { maxSteps := 1000000 }) (disch := first | assumption | (simp; done) | omega | (simp; omega)) only [push_cast, reduceCtorEq, Nat.reduceEqDiff, Nat.reduceAdd, Nat.reduceSub, Nat.reduceMul, Nat.reduceLeDiff, Nat.reduceLT, Int.reduceEq, Int.reduceNe, Int.reduceLT, Int.reduceLE, Int.reduceGT, Int.reduceGE, Int.reduceBEq, Int.reduceBNe, ↓reduceIte, h147, h148, h149, h150, h152, h153, h155, h156]
          refine lpK_of m1 [0, 1, 2, 8, 9, 10] [] (by omega) (by decide) ⟨((((IntKind.wrap .u64 ((a1 + a2))) / 2 ^ (1 : Int).toNat)) + 1), a2, h, ?_⟩
          rw [wk_mk]
          simp (config := { maxSteps := 1000000 }) (disch := first | assumption | (simp; done) | omega | (simp; omega)) only [push_cast, reduceCtorEq, Nat.reduceEqDiff, Nat.reduceAdd, Nat.reduceSub, Nat.reduceMul, Nat.reduceLeDiff, Nat.reduceLT, Int.reduceEq, Int.reduceNe, Int.reduceLT, Int.reduceLE, Int.reduceGT, Int.reduceGE, Int.reduceBEq, Int.reduceBNe, ↓reduceIte, h147, h148, h149, h150, h152, h153, h155, h156] <;> rfl
        · try simp (disch := first | assumption | (simp; done) | omega | (simp; omega)) only [push_cast, reduceCtorEq, Nat.reduceEqDiff, Nat.reduceAdd, Nat.reduceSub, Nat.reduceMul, Nat.reduceLeDiff, Nat.reduceLT, Int.reduceEq, Int.reduceNe, Int.reduceLT, Int.reduceLE, Int.reduceGT, Int.reduceGE, Int.reduceBEq, Int.reduceBNe, ↓reduceIte] at h155
          simp (config := { maxSteps := 1000000 }) (disch := first | assumption | (simp; done) | omega | (simp; omega)) only [push_cast, reduceCtorEq, Nat.reduceEqDiff, Nat.reduceAdd, Nat.reduceSub, Nat.reduceMul, Nat.reduceLeDiff, Nat.reduceLT, Int.reduceEq, Int.reduceNe, Int.reduceLT, Int.reduceLE, Int.reduceGT, Int.reduceGE, Int.reduceBEq, Int.reduceBNe, ↓reduceIte, h147, h148, h149, h150, h152, h153, h155]
          refine lpK_of m1 [0, 1, 2, 8, 9, 10] [] (by omega) (by decide) ⟨a1, (((IntKind.wrap .u64 ((a1 + a2))) / 2 ^ (1 : Int).toNat)), h, ?_⟩
          rw [wk_mk]
          simp (config := { maxSteps := 1000000 }) (disch := first | assumption | (simp; done) | omega | (simp; omega)) only [push_cast, reduceCtorEq, Nat.reduceEqDiff, Nat.reduceAdd, Nat.reduceSub, Nat.reduceMul, Nat.reduceLeDiff, Nat.reduceLT, Int.reduceEq, Int.reduceNe, Int.reduceLT, Int.reduceLE, Int.reduceGT, Int.reduceGE, Int.reduceBEq, Int.reduceBNe, ↓reduceIte, h147, h148, h149, h150, h152, h153, h155] <;> rfl
      · try simp (disch := first | assumption | (simp; done) | omega | (simp; omega)) only [push_cast, reduceCtorEq, Nat.reduceEqDiff, Nat.reduceAdd, Nat.reduceSub, Nat.reduceMul, Nat.reduceLeDiff, Nat.reduceLT, Int.reduceEq, Int.reduceNe, Int.reduceLT, Int.reduceLE, Int.reduceGT, Int.reduceGE, Int.reduceBEq, Int.reduceBNe, ↓reduceIte] at h147
        rcases F_if h with ⟨h157, h⟩ | ⟨h157, h⟩
        · try simp (disch := first | assumption | (simp; done) | omega | (simp; omega)) only [push_cast, reduceCtorEq, Nat.reduceEqDiff, Nat.reduceAdd, Nat.reduceSub, Nat.reduceMul, Nat.reduceLeDiff, Nat.reduceLT, Int.reduceEq, Int.reduceNe, Int.reduceLT, Int.reduceLE, Int.reduceGT, Int.reduceGE, Int.reduceBEq, Int.reduceBNe, ↓reduceIte] at h157
          obtain ⟨x5, h158, h159, h⟩ := F_get h
          have h161 := get_lt h158 h159
          have h160 := map_get Frame.row h159
          try simp (disch := first | assumption | (simp; done) | omega | (simp; omega)) only [push_cast, reduceCtorEq, Nat.reduceEqDiff, Nat.reduceAdd, Nat.reduceSub, Nat.reduceMul, Nat.reduceLeDiff, Nat.reduceLT, Int.reduceEq, Int.reduceNe, Int.reduceLT, Int.reduceLE, Int.reduceGT, Int.reduceGE, Int.reduceBEq, Int.reduceBNe, ↓reduceIte] at h160
          try simp (disch := first | assumption | (simp; done) | omega | (simp; omega)) only [push_cast, reduceCtorEq, Nat.reduceEqDiff, Nat.reduceAdd, Nat.reduceSub, Nat.reduceMul, Nat.reduceLeDiff, Nat.reduceLT, Int.reduceEq, Int.reduceNe, Int.reduceLT, Int.reduceLE, Int.reduceGT, Int.reduceGE, Int.reduceBEq, Int.reduceBNe, ↓reduceIte] at h161
          obtain ⟨v6, h162, h⟩ := F_bd h
          simp (config := { maxSteps := 1000000 }) (disch := first | assumption | (simp; done) | omega | (simp; omega)) only [push_cast, reduceCtorEq, Nat.reduceEqDiff, Nat.reduceAdd, Nat.reduceSub, Nat.reduceMul, Nat.reduceLeDiff, Nat.reduceLT, Int.reduceEq, Int.reduceNe, Int.reduceLT, Int.reduceLE, Int.reduceGT, Int.reduceGE, Int.reduceBEq, Int.reduceBNe, ↓reduceIte, h147, h157, h158, h160, h161]
          refine call_flat (by rfl) (c40 N _ _ _ h162) ?_ rfl ?_
          · simp (config := { maxSteps := 1000000 }) (disch := first | assumption | (simp; done) | omega | (simp; omega)) only [push_cast, reduceCtorEq, Nat.reduceEqDiff, Nat.reduceAdd, Nat.reduceSub, Nat.reduceMul, Nat.reduceLeDiff, Nat.reduceLT, Int.reduceEq, Int.reduceNe, Int.reduceLT, Int.reduceLE, Int.reduceGT, Int.reduceGE, Int.reduceBEq, Int.reduceBNe, ↓reduceIte, h147, h157, h158, h160, h161] <;> rfl
          obtain rfl := Option.some.inj h
          simp (config := { maxSteps := 1000000 }) (disch := first | assumption | (simp; done) | omega | (simp; omega)) only [push_cast, reduceCtorEq, Nat.reduceEqDiff, Nat.reduceAdd, Nat.reduceSub, Nat.reduceMul, Nat.reduceLeDiff, Nat.reduceLT, Int.reduceEq, Int.reduceNe, Int.reduceLT, Int.reduceLE, Int.reduceGT, Int.reduceGE, Int.reduceBEq, Int.reduceBNe, ↓reduceIte, h147, h157, h158, h160, h161]
          refine e_ret (.inr rfl) ?_
          simp (config := { maxSteps := 1000000 }) (disch := first | assumption | (simp; done) | omega | (simp; omega)) only [push_cast, reduceCtorEq, Nat.reduceEqDiff, Nat.reduceAdd, Nat.reduceSub, Nat.reduceMul, Nat.reduceLeDiff, Nat.reduceLT, Int.reduceEq, Int.reduceNe, Int.reduceLT, Int.reduceLE, Int.reduceGT, Int.reduceGE, Int.reduceBEq, Int.reduceBNe, ↓reduceIte, aret, aresults, aresult, h147, h157, h158, h160, h161]
          refine ⟨_, rfl, ?_⟩
          first | (simp (config := { maxSteps := 1000000 }) (disch := first | assumption | (simp; done) | omega | (simp; omega)) only [push_cast, reduceCtorEq, Nat.reduceEqDiff, Nat.reduceAdd, Nat.reduceSub, Nat.reduceMul, Nat.reduceLeDiff, Nat.reduceLT, Int.reduceEq, Int.reduceNe, Int.reduceLT, Int.reduceLE, Int.reduceGT, Int.reduceGE, Int.reduceBEq, Int.reduceBNe, ↓reduceIte, h147, h157, h158, h160, h161] <;> rfl) | rfl
        · try simp (disch := first | assumption | (simp; done) | omega | (simp; omega)) only [push_cast, reduceCtorEq, Nat.reduceEqDiff, Nat.reduceAdd, Nat.reduceSub, Nat.reduceMul, Nat.reduceLeDiff, Nat.reduceLT, Int.reduceEq, Int.reduceNe, Int.reduceLT, Int.reduceLE, Int.reduceGT, Int.reduceGE, Int.reduceBEq, Int.reduceBNe, ↓reduceIte] at h157
          obtain rfl := Option.some.inj h
          simp (config := { maxSteps := 1000000 }) (disch := first | assumption | (simp; done) | omega | (simp; omega)) only [push_cast, reduceCtorEq, Nat.reduceEqDiff, Nat.reduceAdd, Nat.reduceSub, Nat.reduceMul, Nat.reduceLeDiff, Nat.reduceLT, Int.reduceEq, Int.reduceNe, Int.reduceLT, Int.reduceLE, Int.reduceGT, Int.reduceGE, Int.reduceBEq, Int.reduceBNe, ↓reduceIte, h147, h157]
          refine e_ret (.inr rfl) ?_
          simp (config := { maxSteps := 1000000 }) (disch := first | assumption | (simp; done) | omega | (simp; omega)) only [push_cast, reduceCtorEq, Nat.reduceEqDiff, Nat.reduceAdd, Nat.reduceSub, Nat.reduceMul, Nat.reduceLeDiff, Nat.reduceLT, Int.reduceEq, Int.reduceNe, Int.reduceLT, Int.reduceLE, Int.reduceGT, Int.reduceGE, Int.reduceBEq, Int.reduceBNe, ↓reduceIte, aret, aresults, aresult, h147, h157]
          refine ⟨_, rfl, ?_⟩
          first | (simp (config := { maxSteps := 1000000 }) (disch := first | assumption | (simp; done) | omega | (simp; omega)) only [push_cast, reduceCtorEq, Nat.reduceEqDiff, Nat.reduceAdd, Nat.reduceSub, Nat.reduceMul, Nat.reduceLeDiff, Nat.reduceLT, Int.reduceEq, Int.reduceNe, Int.reduceLT, Int.reduceLE, Int.reduceGT, Int.reduceGE, Int.reduceBEq, Int.reduceBNe, ↓reduceIte, h147, h157] <;> rfl) | rfl

/-! ## 42 slices.Clone[[]rivermark.api.Frame,rivermark.api.Frame] -/
def f42g0 : List RO :=
  [⟨(.some 2), (.mv (.const (.slice .none 0 0))), .none⟩]
def f42g1 : List RO :=
  [⟨(.some 3), (.mv (.tmp 0)), .none⟩,
   ⟨(.some 4), (.isnil .false (.tmp 3)), .none⟩]
def f42g2 : List RO :=
  [⟨(.some 2), (.mv (.const (.slice .none 0 0))), .none⟩]
def f42g3 : List RO :=
  [⟨(.some 5), (.bslice 3 []), .none⟩,
   ⟨(.some 6), (.mv (.tmp 0)), .none⟩,
   ⟨(.some 7), (.app 3 32 (.tmp 5) (.tmp 6)), .none⟩,
   ⟨(.some 2), (.mv (.tmp 7)), .none⟩]
def f42c : RCode := (.seq (.reg .false f42g0) (.seq (.seq (.reg .false f42g1) (.cond (.tmp 4) (.seq (.reg .false f42g2) .ret) .skip)) (.seq (.reg .false f42g3) .ret)))
def f42r : List RRes := [(.tmp 2)]
attribute [push_cast] f42g0 f42g1 f42g2 f42g3
def F42 (N : Nat) (p0 : (List Frame)) : Option (List Frame) := if? p0.isEmpty (some ([])) (gd? (p0.length * 32 ≤ 140737488355328) (some (p0)))
theorem c42 (N : Nat) (p0 : (List Frame)) (r : (List Frame)) (h : F42 N p0 = some r) : ACall Try.prog 42 [.D (.L (p0.map Frame.row))] [] (.sl (.O 0) 3 0 r.length) [] [.row true 3 (r.map Frame.row)] := by
  refine ACall.of_bodyW [] (fn := Try.f42) (rc := f42c) (rs := f42r) Try.func42 rfl rfl (by kernel_rfl) (by kernel_rfl) (by kernel_rfl) (by rw [Try.ntmps42]; simp) ?_
  unfold F42 at h
  unfold f42c f42r
  rw [entry_eq _ _]
  rcases F_if h with ⟨h163, h⟩ | ⟨h163, h⟩
  · have h164 := List.isEmpty_iff.1 h163
    simp (config := { maxSteps := 1000000 }) (disch := first | assumption | (simp; done) | omega | (simp; omega)) only [push_cast, reduceCtorEq, Nat.reduceEqDiff, Nat.reduceAdd, Nat.reduceSub, Nat.reduceMul, Nat.reduceLeDiff, Nat.reduceLT, Int.reduceEq, Int.reduceNe, Int.reduceLT, Int.reduceLE, Int.reduceGT, Int.reduceGE, Int.reduceBEq, Int.reduceBNe, ↓reduceIte, h164]
    refine cd_ab ?_ ?_
    · obtain rfl := Option.some.inj h
      simp (config := { maxSteps := 1000000 }) (disch := first | assumption | (simp; done) | omega | (simp; omega)) only [push_cast, reduceCtorEq, Nat.reduceEqDiff, Nat.reduceAdd, Nat.reduceSub, Nat.reduceMul, Nat.reduceLeDiff, Nat.reduceLT, Int.reduceEq, Int.reduceNe, Int.reduceLT, Int.reduceLE, Int.reduceGT, Int.reduceGE, Int.reduceBEq, Int.reduceBNe, ↓reduceIte, h164]
      refine end_own0 2 3 rfl ?_
      simp (config := { maxSteps := 1000000 }) (disch := first | assumption | (simp; done) | omega | (simp; omega)) only [push_cast, reduceCtorEq, Nat.reduceEqDiff, Nat.reduceAdd, Nat.reduceSub, Nat.reduceMul, Nat.reduceLeDiff, Nat.reduceLT, Int.reduceEq, Int.reduceNe, Int.reduceLT, Int.reduceLE, Int.reduceGT, Int.reduceGE, Int.reduceBEq, Int.reduceBNe, ↓reduceIte, h164]
      refine AEndW.of [0] (.inr rfl) (by decide) rfl ?_ rfl ?_
      · simp (config := { maxSteps := 1000000 }) (disch := first | assumption | (simp; done) | omega | (simp; omega)) only [push_cast, reduceCtorEq, Nat.reduceEqDiff, Nat.reduceAdd, Nat.reduceSub, Nat.reduceMul, Nat.reduceLeDiff, Nat.reduceLT, Int.reduceEq, Int.reduceNe, Int.reduceLT, Int.reduceLE, Int.reduceGT, Int.reduceGE, Int.reduceBEq, Int.reduceBNe, ↓reduceIte, h164] <;> rfl
      · simp (config := { maxSteps := 1000000 }) (disch := first | assumption | (simp; done) | omega | (simp; omega)) only [push_cast, reduceCtorEq, Nat.reduceEqDiff, Nat.reduceAdd, Nat.reduceSub, Nat.reduceMul, Nat.reduceLeDiff, Nat.reduceLT, Int.reduceEq, Int.reduceNe, Int.reduceLT, Int.reduceLE, Int.reduceGT, Int.reduceGE, Int.reduceBEq, Int.reduceBNe, ↓reduceIte, h164] <;> rfl
    · obtain rfl := Option.some.inj h
      simp (config := { maxSteps := 1000000 }) (disch := first | assumption | (simp; done) | omega | (simp; omega)) only [push_cast, reduceCtorEq, Nat.reduceEqDiff, Nat.reduceAdd, Nat.reduceSub, Nat.reduceMul, Nat.reduceLeDiff, Nat.reduceLT, Int.reduceEq, Int.reduceNe, Int.reduceLT, Int.reduceLE, Int.reduceGT, Int.reduceGE, Int.reduceBEq, Int.reduceBNe, ↓reduceIte, h164]
      refine AEndW.of [0] (.inr rfl) (by decide) rfl ?_ rfl ?_
      · simp (config := { maxSteps := 1000000 }) (disch := first | assumption | (simp; done) | omega | (simp; omega)) only [push_cast, reduceCtorEq, Nat.reduceEqDiff, Nat.reduceAdd, Nat.reduceSub, Nat.reduceMul, Nat.reduceLeDiff, Nat.reduceLT, Int.reduceEq, Int.reduceNe, Int.reduceLT, Int.reduceLE, Int.reduceGT, Int.reduceGE, Int.reduceBEq, Int.reduceBNe, ↓reduceIte, h164] <;> rfl
      · simp (config := { maxSteps := 1000000 }) (disch := first | assumption | (simp; done) | omega | (simp; omega)) only [push_cast, reduceCtorEq, Nat.reduceEqDiff, Nat.reduceAdd, Nat.reduceSub, Nat.reduceMul, Nat.reduceLeDiff, Nat.reduceLT, Int.reduceEq, Int.reduceNe, Int.reduceLT, Int.reduceLE, Int.reduceGT, Int.reduceGE, Int.reduceBEq, Int.reduceBNe, ↓reduceIte, h164] <;> rfl
  · have h164 := isEmpty_no h163
    have h165 := map_no Frame.row h164
    try simp (disch := first | assumption | (simp; done) | omega | (simp; omega)) only [push_cast, reduceCtorEq, Nat.reduceEqDiff, Nat.reduceAdd, Nat.reduceSub, Nat.reduceMul, Nat.reduceLeDiff, Nat.reduceLT, Int.reduceEq, Int.reduceNe, Int.reduceLT, Int.reduceLE, Int.reduceGT, Int.reduceGE, Int.reduceBEq, Int.reduceBNe, ↓reduceIte] at h165
    have h166 := len_no h164
    obtain ⟨h167, h⟩ := F_gd h
    try simp (disch := first | assumption | (simp; done) | omega | (simp; omega)) only [push_cast, reduceCtorEq, Nat.reduceEqDiff, Nat.reduceAdd, Nat.reduceSub, Nat.reduceMul, Nat.reduceLeDiff, Nat.reduceLT, Int.reduceEq, Int.reduceNe, Int.reduceLT, Int.reduceLE, Int.reduceGT, Int.reduceGE, Int.reduceBEq, Int.reduceBNe, ↓reduceIte] at h167
    obtain rfl := Option.some.inj h
    simp (config := { maxSteps := 1000000 }) (disch := first | assumption | (simp; done) | omega | (simp; omega)) only [push_cast, reduceCtorEq, Nat.reduceEqDiff, Nat.reduceAdd, Nat.reduceSub, Nat.reduceMul, Nat.reduceLeDiff, Nat.reduceLT, Int.reduceEq, Int.reduceNe, Int.reduceLT, Int.reduceLE, Int.reduceGT, Int.reduceGE, Int.reduceBEq, Int.reduceBNe, ↓reduceIte, h167]
    refine AEndW.of [0] (.inr rfl) (by decide) rfl ?_ rfl ?_
    · simp (config := { maxSteps := 1000000 }) (disch := first | assumption | (simp; done) | omega | (simp; omega)) only [push_cast, reduceCtorEq, Nat.reduceEqDiff, Nat.reduceAdd, Nat.reduceSub, Nat.reduceMul, Nat.reduceLeDiff, Nat.reduceLT, Int.reduceEq, Int.reduceNe, Int.reduceLT, Int.reduceLE, Int.reduceGT, Int.reduceGE, Int.reduceBEq, Int.reduceBNe, ↓reduceIte, h167] <;> rfl
    · simp (config := { maxSteps := 1000000 }) (disch := first | assumption | (simp; done) | omega | (simp; omega)) only [push_cast, reduceCtorEq, Nat.reduceEqDiff, Nat.reduceAdd, Nat.reduceSub, Nat.reduceMul, Nat.reduceLeDiff, Nat.reduceLT, Int.reduceEq, Int.reduceNe, Int.reduceLT, Int.reduceLE, Int.reduceGT, Int.reduceGE, Int.reduceBEq, Int.reduceBNe, ↓reduceIte, h167] <;> rfl

/-! ## 44 rivermark.link.Receive$2 -/
def f44g0 : List RO :=
  [⟨(.some 3), (.box (.tmp 0)), .none⟩,
   ⟨(.some 4), (.mv (.const (.bool .false))), .none⟩]
def f44g1 : List RO :=
  [⟨(.some 5), (.faddr 1 (.tmp 3)), .none⟩,
   ⟨(.some 6), (.load .none (.tmp 5)), .none⟩,
   ⟨(.some 7), (.faddr 0 (.tmp 1)), .none⟩,
   ⟨(.some 8), (.load .none (.tmp 7)), .none⟩,
   ⟨(.some 9), (.bin .eql (.tmp 6) (.tmp 8)), .none⟩]
def f44g2 : List RO :=
  [⟨(.some 10), (.load .none (.tmp 2)), .none⟩,
   ⟨(.some 11), (.load (.some 3) (.tmp 3)), .none⟩,
   ⟨(.some 12), (.bslice 3 [(.tmp 11)]), .none⟩,
   ⟨(.some 13), (.appE 3 32 (.tmp 10) (.tmp 12)), .none⟩,
   ⟨.none, (.store 1 (.tmp 2) (.tmp 13)), .none⟩]
def f44g3 : List RO :=
  [⟨(.some 14), (.faddr 0 (.tmp 1)), .none⟩,
   ⟨(.some 15), (.load .none (.tmp 14)), .none⟩,
   ⟨(.some 16), (.bin .add (.tmp 15) (.const (.int .i64 1))), .none⟩,
   ⟨(.some 17), (.faddr 0 (.tmp 1)), .none⟩,
   ⟨.none, (.store 1 (.tmp 17) (.tmp 16)), .none⟩]
def f44g4 : List RO :=
  [⟨(.some 4), (.mv (.const (.bool .true))), .none⟩]
def f44g5 : List RO :=
  [⟨(.some 18), (.faddr 1 (.tmp 3)), .none⟩,
   ⟨(.some 19), (.load .none (.tmp 18)), .none⟩,
   ⟨(.some 20), (.faddr 0 (.tmp 1)), .none⟩,
   ⟨(.some 21), (.load .none (.tmp 20)), .none⟩,
   ⟨(.some 22), (.bin .lss (.tmp 19) (.tmp 21)), .none⟩,
   ⟨(.some 4), (.mv (.tmp 22)), .none⟩]
def f44c : RCode := (.seq (.reg .false f44g0) (.seq (.seq (.reg .false f44g1) (.cond (.tmp 9) (.seq (.reg .false f44g2) (.seq (.reg .false f44g3) (.seq (.reg .false f44g4) .ret))) .skip)) (.seq (.reg .false f44g5) .ret)))
def f44r : List RRes := [(.tmp 4)]
attribute [push_cast] f44g0 f44g1 f44g2 f44g3 f44g4 f44g5
def F44 (N : Nat) (p0 : Frame) (q0 : Inbox) (q1 : (List Frame)) : Option (Bool × Inbox × (List Frame)) := if? ((p0.Seq == q0.Next)) (gd? ((q1.length + [p0].length) * 32 ≤ 140737488355328) (ck .i64 (q0.Next + 1) (some (true, (Inbox.mk (q0.Next + 1) q0.Ahead), (q1 ++ [p0]))))) (some (decide (p0.Seq < q0.Next), q0, q1))
theorem c44 (N : Nat) (p0 : Frame) (q0 : Inbox) (q1 : (List Frame)) (r : (Bool × Inbox × (List Frame))) (h : F44 N p0 q0 q1 = some r) : ACall Try.prog 44 [.agg [.D (.B p0.Sum), .D (.I .i64 p0.Seq), .D (.S p0.Body)], .ptr (.B 0) 0, .ptr (.B 1) 0] [some (.box [.D (.I .i64 q0.Next), .D (.L (q0.Ahead.map Frame.row))]), some (.box [.sl (.B 2) 3 0 q1.length]), some (.row true 3 (q1.map Frame.row))] (.D (.B r.1)) [some (.box [.D (.I .i64 r.2.1.Next), .D (.L (r.2.1.Ahead.map Frame.row))]), some (.box [.sl (.O 0) 3 0 r.2.2.length]), none] [.row true 3 (r.2.2.map Frame.row)] := by
  refine ACall.of_bodyM [13] [2] (fn := Try.f44) (rc := f44c) (rs := f44r) Try.func44 rfl rfl (by kernel_rfl) (by kernel_rfl) (by kernel_rfl) (by rw [Try.ntmps44]; simp) (by decide) ?_
  unfold F44 at h
  unfold f44c f44r
  rw [entryM_eq _ _ _ _ _ (by simp (config := { maxSteps := 1000000 }) (disch := first | assumption | (simp; done) | omega | (simp; omega)) only [push_cast, reduceCtorEq, Nat.reduceEqDiff, Nat.reduceAdd, Nat.reduceSub, Nat.reduceMul, Nat.reduceLeDiff, Nat.reduceLT, Int.reduceEq, Int.reduceNe, Int.reduceLT, Int.reduceLE, Int.reduceGT, Int.reduceGE, Int.reduceBEq, Int.reduceBNe, ↓reduceIte] <;> rfl) (by simp (config := { maxSteps := 1000000 }) (disch := first | assumption | (simp; done) | omega | (simp; omega)) only [push_cast, reduceCtorEq, Nat.reduceEqDiff, Nat.reduceAdd, Nat.reduceSub, Nat.reduceMul, Nat.reduceLeDiff, Nat.reduceLT, Int.reduceEq, Int.reduceNe, Int.reduceLT, Int.reduceLE, Int.reduceGT, Int.reduceGE, Int.reduceBEq, Int.reduceBNe, ↓reduceIte] <;> rfl)]
  rcases F_if h with ⟨h168, h⟩ | ⟨h168, h⟩
  · try simp (disch := first | assumption | (simp; done) | omega | (simp; omega)) only [push_cast, reduceCtorEq, Nat.reduceEqDiff, Nat.reduceAdd, Nat.reduceSub, Nat.reduceMul, Nat.reduceLeDiff, Nat.reduceLT, Int.reduceEq, Int.reduceNe, Int.reduceLT, Int.reduceLE, Int.reduceGT, Int.reduceGE, Int.reduceBEq, Int.reduceBNe, ↓reduceIte] at h168
    obtain ⟨h169, h⟩ := F_gd h
    try simp (disch := first | assumption | (simp; done) | omega | (simp; omega)) only [push_cast, reduceCtorEq, Nat.reduceEqDiff, Nat.reduceAdd, Nat.reduceSub, Nat.reduceMul, Nat.reduceLeDiff, Nat.reduceLT, Int.reduceEq, Int.reduceNe, Int.reduceLT, Int.reduceLE, Int.reduceGT, Int.reduceGE, Int.reduceBEq, Int.reduceBNe, ↓reduceIte] at h169
    obtain ⟨h170, h⟩ := F_ck h
    try simp (disch := first | assumption | (simp; done) | omega | (simp; omega)) only [push_cast, reduceCtorEq, Nat.reduceEqDiff, Nat.reduceAdd, Nat.reduceSub, Nat.reduceMul, Nat.reduceLeDiff, Nat.reduceLT, Int.reduceEq, Int.reduceNe, Int.reduceLT, Int.reduceLE, Int.reduceGT, Int.reduceGE, Int.reduceBEq, Int.reduceBNe, ↓reduceIte] at h170
    obtain rfl := Option.some.inj h
    simp (config := { maxSteps := 1000000 }) (disch := first | assumption | (simp; done) | omega | (simp; omega)) only [push_cast, reduceCtorEq, Nat.reduceEqDiff, Nat.reduceAdd, Nat.reduceSub, Nat.reduceMul, Nat.reduceLeDiff, Nat.reduceLT, Int.reduceEq, Int.reduceNe, Int.reduceLT, Int.reduceLE, Int.reduceGT, Int.reduceGE, Int.reduceBEq, Int.reduceBNe, ↓reduceIte, h168, h169, h170]
    refine AEndW.of [3] (.inr rfl) (by decide) rfl ?_ ?_ ?_
    · simp (config := { maxSteps := 1000000 }) (disch := first | assumption | (simp; done) | omega | (simp; omega)) only [push_cast, reduceCtorEq, Nat.reduceEqDiff, Nat.reduceAdd, Nat.reduceSub, Nat.reduceMul, Nat.reduceLeDiff, Nat.reduceLT, Int.reduceEq, Int.reduceNe, Int.reduceLT, Int.reduceLE, Int.reduceGT, Int.reduceGE, Int.reduceBEq, Int.reduceBNe, ↓reduceIte, h168, h169, h170] <;> rfl
    · simp (config := { maxSteps := 1000000 }) (disch := first | assumption | (simp; done) | omega | (simp; omega)) only [push_cast, reduceCtorEq, Nat.reduceEqDiff, Nat.reduceAdd, Nat.reduceSub, Nat.reduceMul, Nat.reduceLeDiff, Nat.reduceLT, Int.reduceEq, Int.reduceNe, Int.reduceLT, Int.reduceLE, Int.reduceGT, Int.reduceGE, Int.reduceBEq, Int.reduceBNe, ↓reduceIte, h168, h169, h170] <;> rfl
    · simp (config := { maxSteps := 1000000 }) (disch := first | assumption | (simp; done) | omega | (simp; omega)) only [push_cast, reduceCtorEq, Nat.reduceEqDiff, Nat.reduceAdd, Nat.reduceSub, Nat.reduceMul, Nat.reduceLeDiff, Nat.reduceLT, Int.reduceEq, Int.reduceNe, Int.reduceLT, Int.reduceLE, Int.reduceGT, Int.reduceGE, Int.reduceBEq, Int.reduceBNe, ↓reduceIte, h168, h169, h170] <;> rfl
  · try simp (disch := first | assumption | (simp; done) | omega | (simp; omega)) only [push_cast, reduceCtorEq, Nat.reduceEqDiff, Nat.reduceAdd, Nat.reduceSub, Nat.reduceMul, Nat.reduceLeDiff, Nat.reduceLT, Int.reduceEq, Int.reduceNe, Int.reduceLT, Int.reduceLE, Int.reduceGT, Int.reduceGE, Int.reduceBEq, Int.reduceBNe, ↓reduceIte] at h168
    obtain rfl := Option.some.inj h
    simp (config := { maxSteps := 1000000 }) (disch := first | assumption | (simp; done) | omega | (simp; omega)) only [push_cast, reduceCtorEq, Nat.reduceEqDiff, Nat.reduceAdd, Nat.reduceSub, Nat.reduceMul, Nat.reduceLeDiff, Nat.reduceLT, Int.reduceEq, Int.reduceNe, Int.reduceLT, Int.reduceLE, Int.reduceGT, Int.reduceGE, Int.reduceBEq, Int.reduceBNe, ↓reduceIte, h168]
    refine AEndW.of [0] (.inr rfl) (by decide) rfl ?_ ?_ ?_
    · simp (config := { maxSteps := 1000000 }) (disch := first | assumption | (simp; done) | omega | (simp; omega)) only [push_cast, reduceCtorEq, Nat.reduceEqDiff, Nat.reduceAdd, Nat.reduceSub, Nat.reduceMul, Nat.reduceLeDiff, Nat.reduceLT, Int.reduceEq, Int.reduceNe, Int.reduceLT, Int.reduceLE, Int.reduceGT, Int.reduceGE, Int.reduceBEq, Int.reduceBNe, ↓reduceIte, h168] <;> rfl
    · simp (config := { maxSteps := 1000000 }) (disch := first | assumption | (simp; done) | omega | (simp; omega)) only [push_cast, reduceCtorEq, Nat.reduceEqDiff, Nat.reduceAdd, Nat.reduceSub, Nat.reduceMul, Nat.reduceLeDiff, Nat.reduceLT, Int.reduceEq, Int.reduceNe, Int.reduceLT, Int.reduceLE, Int.reduceGT, Int.reduceGE, Int.reduceBEq, Int.reduceBNe, ↓reduceIte, h168] <;> rfl
    · simp (config := { maxSteps := 1000000 }) (disch := first | assumption | (simp; done) | omega | (simp; omega)) only [push_cast, reduceCtorEq, Nat.reduceEqDiff, Nat.reduceAdd, Nat.reduceSub, Nat.reduceMul, Nat.reduceLeDiff, Nat.reduceLT, Int.reduceEq, Int.reduceNe, Int.reduceLT, Int.reduceLE, Int.reduceGT, Int.reduceGE, Int.reduceBEq, Int.reduceBNe, ↓reduceIte, h168] <;> rfl

/-! ## 52 slices.IndexFunc[[]rivermark.api.Frame,rivermark.api.Frame] -/
def f52g0 : List RO :=
  [⟨(.some 4), (.mv (.const (.int .i64 0))), .none⟩]
def f52g1 : List RO :=
  [⟨(.some 6), (.mv (.tmp 0)), .none⟩,
   ⟨(.some 7), (.len .false (.tmp 6)), .none⟩,
   ⟨(.some 8), (.mv (.const (.int .i64 0))), .none⟩]
def f52g2 : List RO :=
  [⟨(.some 9), (.bin .lss (.tmp 8) (.tmp 7)), .none⟩]
def f52g3 : List RO :=
  [⟨(.some 10), (.mv (.tmp 8)), .none⟩,
   ⟨(.some 5), (.mv (.tmp 10)), .none⟩]
def f52g4 : List RO :=
  [⟨(.some 11), (.mv (.tmp 1)), .none⟩,
   ⟨(.some 12), (.mv (.tmp 0)), .none⟩,
   ⟨(.some 13), (.mv (.tmp 5)), .none⟩,
   ⟨(.some 14), (.iaddr 3 (.tmp 12) (.tmp 13)), .none⟩,
   ⟨(.some 15), (.load (.some 3) (.tmp 14)), .none⟩,
   ⟨(.some 16), (.callE (.tmp 11) [(.tmp 15)]), .none⟩]
def f52g5 : List RO :=
  [⟨(.some 17), (.mv (.tmp 5)), .none⟩,
   ⟨(.some 4), (.mv (.tmp 17)), .none⟩]
def f52g6 : List RO :=
  [⟨(.some 18), (.bin .add (.tmp 8) (.const (.int .i64 1))), .none⟩,
   ⟨(.some 8), (.mv (.tmp 18)), .none⟩]
def f52b7 : RCode := (.seq (.reg .false f52g2) (.seq (.cond (.tmp 9) .skip (.exit 0)) (.seq (.block 1 (.seq (.reg .false f52g3) (.seq (.reg .false f52g4) (.cond (.tmp 16) (.seq (.reg .false f52g5) .ret) .skip)))) (.reg .false f52g6))))
def f52g8 : List RO :=
  [⟨(.some 4), (.mv (.const (.int .i64 (-1)))), .none⟩]
def f52c : RCode := (.seq (.reg .false f52g0) (.seq (.seq (.reg .false f52g1) (.block 0 (.loop f52b7))) (.seq (.reg .false f52g8) .ret)))
def f52r : List RRes := [(.tmp 4)]
attribute [push_cast] f52g0 f52g1 f52g2 f52g3 f52g4 f52g5 f52g6 f52g8
def L52_0 (N : Nat) (q0 : (List Frame)) : Nat → Int → (List Frame) → Int → (List Frame) → Option (Int × (List Frame) × Inbox × (List Frame))
  | 0, _, _, _, _ => none
  | m1+1, a1, a2, a3, a4 => if? (decide (a1 < (q0.length : Int))) (get? q0 (a1) fun x5 => bd? (F44 N x5 (Inbox.mk a3 a4) a2) fun v6 => if? (v6.1) (some (a1, q0, v6.2.1, v6.2.2)) (ck .i64 (a1 + 1) (L52_0 N q0 m1 (a1 + 1) v6.2.2 v6.2.1.Next v6.2.1.Ahead))) (some ((-1), q0, (Inbox.mk a3 a4), a2))
def I52_0 (N : Nat) (q0 : (List Frame)) (r : (Int × (List Frame) × Inbox × (List Frame))) (n : Nat) (s : AState) : Prop := ∃ (a1 : Int) (a2 : (List Frame)) (a3 : Int) (a4 : (List Frame)), L52_0 N q0 n a1 a2 a3 a4 = some r ∧ s = ⟨envL [(0, .sl (.B 0) 3 0 q0.length), (1, .clo 44 [.ptr (.B 1) 0, .ptr (.B 2) 0]), (7, .D (.I .i64 (q0.length : Int))), (8, .D (.I .i64 a1))], ownL [some (.row true 3 (q0.map Frame.row)), some (.box [.D (.I .i64 a3), .D (.L (a4.map Frame.row))]), some (.box [.sl (.O 0) 3 0 a2.length]), none], ownL [some (.row true 3 (a2.map Frame.row))], 1⟩
def F52 (N : Nat) (q0 : (List Frame)) (q1 : Inbox) (q2 : (List Frame)) : Option (Int × (List Frame) × Inbox × (List Frame)) := L52_0 N q0 N 0 q2 q1.Next q1.Ahead
theorem c52 (N : Nat) (q0 : (List Frame)) (q1 : Inbox) (q2 : (List Frame)) (r : (Int × (List Frame) × Inbox × (List Frame))) (h : F52 N q0 q1 q2 = some r) : ACall Try.prog 52 [.sl (.B 0) 3 0 q0.length, .clo 44 [.ptr (.B 1) 0, .ptr (.B 2) 0]] [some (.row true 3 (q0.map Frame.row)), some (.box [.D (.I .i64 q1.Next), .D (.L (q1.Ahead.map Frame.row))]), some (.box [.sl (.B 3) 3 0 q2.length]), some (.row true 3 (q2.map Frame.row))] (.D (.I .i64 r.1)) [some (.row true 3 (r.2.1.map Frame.row)), some (.box [.D (.I .i64 r.2.2.1.Next), .D (.L (r.2.2.1.Ahead.map Frame.row))]), some (.box [.sl (.O 0) 3 0 r.2.2.2.length]), none] [.row true 3 (r.2.2.2.map Frame.row)] := by
  refine ACall.of_bodyM [16] [3] (fn := Try.f52) (rc := f52c) (rs := f52r) Try.func52 rfl rfl (by kernel_rfl) (by kernel_rfl) (by kernel_rfl) (by rw [Try.ntmps52]; simp) (by decide) ?_
  unfold F52 at h
  unfold f52c f52r
  rw [entryM_eq _ _ _ _ _ (by simp (config := { maxSteps := 1000000 }) (disch := first | assumption | (simp; done) | omega | (simp; omega)) only [push_cast, reduceCtorEq, Nat.reduceEqDiff, Nat.reduceAdd, Nat.reduceSub, Nat.reduceMul, Nat.reduceLeDiff, Nat.reduceLT, Int.reduceEq, Int.reduceNe, Int.reduceLT, Int.reduceLE, Int.reduceGT, Int.reduceGE, Int.reduceBEq, Int.reduceBNe, ↓reduceIte] <;> rfl) (by simp (config := { maxSteps := 1000000 }) (disch := first | assumption | (simp; done) | omega | (simp; omega)) only [push_cast, reduceCtorEq, Nat.reduceEqDiff, Nat.reduceAdd, Nat.reduceSub, Nat.reduceMul, Nat.reduceLeDiff, Nat.reduceLT, Int.reduceEq, Int.reduceNe, Int.reduceLT, Int.reduceLE, Int.reduceGT, Int.reduceGE, Int.reduceBEq, Int.reduceBNe, ↓reduceIte] <;> rfl)]
  simp (config := { maxSteps := 1000000 }) (disch := first | assumption | (simp; done) | omega | (simp; omega)) only [push_cast, reduceCtorEq, Nat.reduceEqDiff, Nat.reduceAdd, Nat.reduceSub, Nat.reduceMul, Nat.reduceLeDiff, Nat.reduceLT, Int.reduceEq, Int.reduceNe, Int.reduceLT, Int.reduceLE, Int.reduceGT, Int.reduceGE, Int.reduceBEq, Int.reduceBNe, ↓reduceIte]
  refine loop_of (I52_0 N q0 _) N [0, 1, 7, 8] [0] (by decide) ⟨0, q2, q1.Next, q1.Ahead, h, ?_⟩ ?_
  · rw [wk_mk]
    simp (config := { maxSteps := 1000000 }) (disch := first | assumption | (simp; done) | omega | (simp; omega)) only [push_cast, reduceCtorEq, Nat.reduceEqDiff, Nat.reduceAdd, Nat.reduceSub, Nat.reduceMul, Nat.reduceLeDiff, Nat.reduceLT, Int.reduceEq, Int.reduceNe, Int.reduceLT, Int.reduceLE, Int.reduceGT, Int.reduceGE, Int.reduceBEq, Int.reduceBNe, ↓reduceIte] <;> rfl
  · rintro n s ⟨a1, a2, a3, a4, h, rfl⟩
    cases n with
    | zero => exact absurd h (by simp [L52_0])
    | succ m1 =>
      rw [L52_0] at h
      unfold f52b7
      rcases F_if h with ⟨h171, h⟩ | ⟨h171, h⟩
      · try simp (disch := first | assumption | (simp; done) | omega | (simp; omega)) only [push_cast, reduceCtorEq, Nat.reduceEqDiff, Nat.reduceAdd, Nat.reduceSub, Nat.reduceMul, Nat.reduceLeDiff, Nat.reduceLT, Int.reduceEq, Int.reduceNe, Int.reduceLT, Int.reduceLE, Int.reduceGT, Int.reduceGE, Int.reduceBEq, Int.reduceBNe, ↓reduceIte] at h171
        obtain ⟨x5, h172, h173, h⟩ := F_get h
        have h175 := get_lt h172 h173
        have h174 := map_get Frame.row h173
        try simp (disch := first | assumption | (simp; done) | omega | (simp; omega)) only [push_cast, reduceCtorEq, Nat.reduceEqDiff, Nat.reduceAdd, Nat.reduceSub, Nat.reduceMul, Nat.reduceLeDiff, Nat.reduceLT, Int.reduceEq, Int.reduceNe, Int.reduceLT, Int.reduceLE, Int.reduceGT, Int.reduceGE, Int.reduceBEq, Int.reduceBNe, ↓reduceIte] at h174
        try simp (disch := first | assumption | (simp; done) | omega | (simp; omega)) only [push_cast, reduceCtorEq, Nat.reduceEqDiff, Nat.reduceAdd, Nat.reduceSub, Nat.reduceMul, Nat.reduceLeDiff, Nat.reduceLT, Int.reduceEq, Int.reduceNe, Int.reduceLT, Int.reduceLE, Int.reduceGT, Int.reduceGE, Int.reduceBEq, Int.reduceBNe, ↓reduceIte] at h175
        obtain ⟨v6, h176, h⟩ := F_bd h
        simp (config := { maxSteps := 1000000 }) (disch := first | assumption | (simp; done) | omega | (simp; omega)) only [push_cast, reduceCtorEq, Nat.reduceEqDiff, Nat.reduceAdd, Nat.reduceSub, Nat.reduceMul, Nat.reduceLeDiff, Nat.reduceLT, Int.reduceEq, Int.reduceNe, Int.reduceLT, Int.reduceLE, Int.reduceGT, Int.reduceGE, Int.reduceBEq, Int.reduceBNe, ↓reduceIte, h171, h172, h174, h175]
        refine callE_of [.B 1, .B 2, .O 0] (by rfl) (c44 N _ _ _ _ h176) (by decide) rfl (by simp (config := { maxSteps := 1000000 }) (disch := first | assumption | (simp; done) | omega | (simp; omega)) only [push_cast, reduceCtorEq, Nat.reduceEqDiff, Nat.reduceAdd, Nat.reduceSub, Nat.reduceMul, Nat.reduceLeDiff, Nat.reduceLT, Int.reduceEq, Int.reduceNe, Int.reduceLT, Int.reduceLE, Int.reduceGT, Int.reduceGE, Int.reduceBEq, Int.reduceBNe, ↓reduceIte] <;> rfl) (by simp (config := { maxSteps := 1000000 }) (disch := first | assumption | (simp; done) | omega | (simp; omega)) only [push_cast, reduceCtorEq, Nat.reduceEqDiff, Nat.reduceAdd, Nat.reduceSub, Nat.reduceMul, Nat.reduceLeDiff, Nat.reduceLT, Int.reduceEq, Int.reduceNe, Int.reduceLT, Int.reduceLE, Int.reduceGT, Int.reduceGE, Int.reduceBEq, Int.reduceBNe, ↓reduceIte] <;> rfl) ?_ ?_ ?_
        · simp (config := { maxSteps := 1000000 }) (disch := first | assumption | (simp; done) | omega | (simp; omega)) only [push_cast, reduceCtorEq, Nat.reduceEqDiff, Nat.reduceAdd, Nat.reduceSub, Nat.reduceMul, Nat.reduceLeDiff, Nat.reduceLT, Int.reduceEq, Int.reduceNe, Int.reduceLT, Int.reduceLE, Int.reduceGT, Int.reduceGE, Int.reduceBEq, Int.reduceBNe, ↓reduceIte, h171, h172, h174, h175] <;> rfl
        · simp (config := { maxSteps := 1000000 }) (disch := first | assumption | (simp; done) | omega | (simp; omega)) only [push_cast, reduceCtorEq, Nat.reduceEqDiff, Nat.reduceAdd, Nat.reduceSub, Nat.reduceMul, Nat.reduceLeDiff, Nat.reduceLT, Int.reduceEq, Int.reduceNe, Int.reduceLT, Int.reduceLE, Int.reduceGT, Int.reduceGE, Int.reduceBEq, Int.reduceBNe, ↓reduceIte, h171, h172, h174, h175] <;> rfl
        rcases F_if h with ⟨h177, h⟩ | ⟨h177, h⟩
        · try simp (disch := first | assumption | (simp; done) | omega | (simp; omega)) only [push_cast, reduceCtorEq, Nat.reduceEqDiff, Nat.reduceAdd, Nat.reduceSub, Nat.reduceMul, Nat.reduceLeDiff, Nat.reduceLT, Int.reduceEq, Int.reduceNe, Int.reduceLT, Int.reduceLE, Int.reduceGT, Int.reduceGE, Int.reduceBEq, Int.reduceBNe, ↓reduceIte] at h177
          obtain rfl := Option.some.inj h
          simp (config := { maxSteps := 1000000 }) (disch := first | assumption | (simp; done) | omega | (simp; omega)) only [push_cast, reduceCtorEq, Nat.reduceEqDiff, Nat.reduceAdd, Nat.reduceSub, Nat.reduceMul, Nat.reduceLeDiff, Nat.reduceLT, Int.reduceEq, Int.reduceNe, Int.reduceLT, Int.reduceLE, Int.reduceGT, Int.reduceGE, Int.reduceBEq, Int.reduceBNe, ↓reduceIte, h171, h172, h174, h175, h177]
          refine AEndW.of [1] (.inr rfl) (by decide) rfl ?_ ?_ ?_
          · simp (config := { maxSteps := 1000000 }) (disch := first | assumption | (simp; done) | omega | (simp; omega)) only [push_cast, reduceCtorEq, Nat.reduceEqDiff, Nat.reduceAdd, Nat.reduceSub, Nat.reduceMul, Nat.reduceLeDiff, Nat.reduceLT, Int.reduceEq, Int.reduceNe, Int.reduceLT, Int.reduceLE, Int.reduceGT, Int.reduceGE, Int.reduceBEq, Int.reduceBNe, ↓reduceIte, h171, h172, h174, h175, h177] <;> rfl
          · simp (config := { maxSteps := 1000000 }) (disch := first | assumption | (simp; done) | omega | (simp; omega)) only [push_cast, reduceCtorEq, Nat.reduceEqDiff, Nat.reduceAdd, Nat.reduceSub, Nat.reduceMul, Nat.reduceLeDiff, Nat.reduceLT, Int.reduceEq, Int.reduceNe, Int.reduceLT, Int.reduceLE, Int.reduceGT, Int.reduceGE, Int.reduceBEq, Int.reduceBNe, ↓reduceIte, h171, h172, h174, h175, h177] <;> rfl
          · simp (config := { maxSteps := 1000000 }) (disch := first | assumption | (simp; done) | omega | (simp; omega)) only [push_cast, reduceCtorEq, Nat.reduceEqDiff, Nat.reduceAdd, Nat.reduceSub, Nat.reduceMul, Nat.reduceLeDiff, Nat.reduceLT, Int.reduceEq, Int.reduceNe, Int.reduceLT, Int.reduceLE, Int.reduceGT, Int.reduceGE, Int.reduceBEq, Int.reduceBNe, ↓reduceIte, h171, h172, h174, h175, h177] <;> rfl
        · try simp (disch := first | assumption | (simp; done) | omega | (simp; omega)) only [push_cast, reduceCtorEq, Nat.reduceEqDiff, Nat.reduceAdd, Nat.reduceSub, Nat.reduceMul, Nat.reduceLeDiff, Nat.reduceLT, Int.reduceEq, Int.reduceNe, Int.reduceLT, Int.reduceLE, Int.reduceGT, Int.reduceGE, Int.reduceBEq, Int.reduceBNe, ↓reduceIte] at h177
          obtain ⟨h178, h⟩ := F_ck h
          try simp (disch := first | assumption | (simp; done) | omega | (simp; omega)) only [push_cast, reduceCtorEq, Nat.reduceEqDiff, Nat.reduceAdd, Nat.reduceSub, Nat.reduceMul, Nat.reduceLeDiff, Nat.reduceLT, Int.reduceEq, Int.reduceNe, Int.reduceLT, Int.reduceLE, Int.reduceGT, Int.reduceGE, Int.reduceBEq, Int.reduceBNe, ↓reduceIte] at h178
          simp (config := { maxSteps := 1000000 }) (disch := first | assumption | (simp; done) | omega | (simp; omega)) only [push_cast, reduceCtorEq, Nat.reduceEqDiff, Nat.reduceAdd, Nat.reduceSub, Nat.reduceMul, Nat.reduceLeDiff, Nat.reduceLT, Int.reduceEq, Int.reduceNe, Int.reduceLT, Int.reduceLE, Int.reduceGT, Int.reduceGE, Int.reduceBEq, Int.reduceBNe, ↓reduceIte, h171, h172, h174, h175, h177, h178]
          refine lpK_of m1 [0, 1, 7, 8] [1] (by omega) (by decide) ⟨(a1 + 1), v6.2.2, v6.2.1.Next, v6.2.1.Ahead, h, ?_⟩
          rw [wk_mk]
          simp (config := { maxSteps := 1000000 }) (disch := first | assumption | (simp; done) | omega | (simp; omega)) only [push_cast, reduceCtorEq, Nat.reduceEqDiff, Nat.reduceAdd, Nat.reduceSub, Nat.reduceMul, Nat.reduceLeDiff, Nat.reduceLT, Int.reduceEq, Int.reduceNe, Int.reduceLT, Int.reduceLE, Int.reduceGT, Int.reduceGE, Int.reduceBEq, Int.reduceBNe, ↓reduceIte, h171, h172, h174, h175, h177, h178] <;> rfl
      · try simp (disch := first | assumption | (simp; done) | omega | (simp; omega)) only [push_cast, reduceCtorEq, Nat.reduceEqDiff, Nat.reduceAdd, Nat.reduceSub, Nat.reduceMul, Nat.reduceLeDiff, Nat.reduceLT, Int.reduceEq, Int.reduceNe, Int.reduceLT, Int.reduceLE, Int.reduceGT, Int.reduceGE, Int.reduceBEq, Int.reduceBNe, ↓reduceIte] at h171
        obtain rfl := Option.some.inj h
        simp (config := { maxSteps := 1000000 }) (disch := first | assumption | (simp; done) | omega | (simp; omega)) only [push_cast, reduceCtorEq, Nat.reduceEqDiff, Nat.reduceAdd, Nat.reduceSub, Nat.reduceMul, Nat.reduceLeDiff, Nat.reduceLT, Int.reduceEq, Int.reduceNe, Int.reduceLT, Int.reduceLE, Int.reduceGT, Int.reduceGE, Int.reduceBEq, Int.reduceBNe, ↓reduceIte, h171]
        refine AEndW.of [0] (.inr rfl) (by decide) rfl ?_ ?_ ?_
        · simp (config := { maxSteps := 1000000 }) (disch := first | assumption | (simp; done) | omega | (simp; omega)) only [push_cast, reduceCtorEq, Nat.reduceEqDiff, Nat.reduceAdd, Nat.reduceSub, Nat.reduceMul, Nat.reduceLeDiff, Nat.reduceLT, Int.reduceEq, Int.reduceNe, Int.reduceLT, Int.reduceLE, Int.reduceGT, Int.reduceGE, Int.reduceBEq, Int.reduceBNe, ↓reduceIte, h171] <;> rfl
        · simp (config := { maxSteps := 1000000 }) (disch := first | assumption | (simp; done) | omega | (simp; omega)) only [push_cast, reduceCtorEq, Nat.reduceEqDiff, Nat.reduceAdd, Nat.reduceSub, Nat.reduceMul, Nat.reduceLeDiff, Nat.reduceLT, Int.reduceEq, Int.reduceNe, Int.reduceLT, Int.reduceLE, Int.reduceGT, Int.reduceGE, Int.reduceBEq, Int.reduceBNe, ↓reduceIte, h171] <;> rfl
        · simp (config := { maxSteps := 1000000 }) (disch := first | assumption | (simp; done) | omega | (simp; omega)) only [push_cast, reduceCtorEq, Nat.reduceEqDiff, Nat.reduceAdd, Nat.reduceSub, Nat.reduceMul, Nat.reduceLeDiff, Nat.reduceLT, Int.reduceEq, Int.reduceNe, Int.reduceLT, Int.reduceLE, Int.reduceGT, Int.reduceGE, Int.reduceBEq, Int.reduceBNe, ↓reduceIte, h171] <;> rfl

/-! ## 43 slices.DeleteFunc[[]rivermark.api.Frame,rivermark.api.Frame] -/
def f43g0 : List RO :=
  [⟨(.some 4), (.mv (.const (.slice .none 0 0))), .none⟩]
def f43g1 : List RO :=
  [⟨(.some 8), (.mv (.tmp 0)), .none⟩,
   ⟨(.some 9), (.mv (.tmp 1)), .none⟩,
   ⟨(.some 10), (.callE (.func 52) [(.tmp 8), (.tmp 9)]), .none⟩,
   ⟨(.some 5), (.mv (.tmp 10)), .none⟩]
def f43g2 : List RO :=
  [⟨(.some 11), (.mv (.tmp 5)), .none⟩,
   ⟨(.some 12), (.bin .eql (.tmp 11) (.const (.int .i64 (-1)))), .none⟩]
def f43g3 : List RO :=
  [⟨(.some 13), (.mv (.tmp 0)), .none⟩,
   ⟨(.some 4), (.mv (.tmp 13)), .none⟩]
def f43g4 : List RO :=
  [⟨(.some 14), (.mv (.tmp 5)), .none⟩,
   ⟨(.some 15), (.bin .add (.tmp 14) (.const (.int .i64 1))), .none⟩,
   ⟨(.some 6), (.mv (.tmp 15)), .none⟩]
def f43g5 : List RO :=
  [⟨(.some 16), (.mv (.tmp 6)), .none⟩,
   ⟨(.some 17), (.mv (.tmp 0)), .none⟩,
   ⟨(.some 18), (.len .false (.tmp 17)), .none⟩,
   ⟨(.some 19), (.bin .lss (.tmp 16) (.tmp 18)), .none⟩]
def f43g6 : List RO :=
  [⟨(.some 22), (.mv (.tmp 0)), .none⟩,
   ⟨(.some 23), (.mv (.tmp 6)), .none⟩,
   ⟨(.some 24), (.iaddr 3 (.tmp 22) (.tmp 23)), .none⟩,
   ⟨(.some 25), (.load (.some 3) (.tmp 24)), .none⟩,
   ⟨(.some 7), (.new [(.D (.B .false)), (.D (.I .i64 0)), (.D (.S []))]), .none⟩,
   ⟨.none, (.store 3 (.tmp 7) (.tmp 25)), .none⟩]
def f43g7 : List RO :=
  [⟨(.some 26), (.mv (.tmp 1)), .none⟩,
   ⟨(.some 27), (.load (.some 3) (.tmp 7)), .none⟩,
   ⟨(.some 28), (.callE (.tmp 26) [(.tmp 27)]), .none⟩,
   ⟨(.some 29), (.un .not (.tmp 28)), .none⟩]
def f43g8 : List RO :=
  [⟨(.some 30), (.mv (.tmp 0)), .none⟩,
   ⟨(.some 31), (.mv (.tmp 5)), .none⟩,
   ⟨(.some 32), (.load (.some 3) (.tmp 7)), .none⟩,
   ⟨(.some 33), (.iaddr 3 (.tmp 30) (.tmp 31)), .none⟩,
   ⟨.none, (.store 3 (.tmp 33) (.tmp 32)), .none⟩]
def f43g9 : List RO :=
  [⟨(.some 34), (.mv (.tmp 5)), .none⟩,
   ⟨(.some 35), (.bin .add (.tmp 34) (.const (.int .i64 1))), .none⟩,
   ⟨(.some 5), (.mv (.tmp 35)), .none⟩]
def f43g10 : List RO :=
  [⟨(.some 20), (.mv (.tmp 6)), .none⟩,
   ⟨(.some 21), (.bin .add (.tmp 20) (.const (.int .i64 1))), .none⟩,
   ⟨(.some 6), (.mv (.tmp 21)), .none⟩]
def f43b11 : RCode := (.seq (.seq (.reg .false f43g5) (.cond (.tmp 19) .skip (.exit 0))) (.seq (.block 1 (.seq (.reg .false f43g6) (.seq (.reg .false f43g7) (.cond (.tmp 29) (.seq (.reg .false f43g8) (.reg .false f43g9)) .skip)))) (.reg .false f43g10)))
def f43g12 : List RO :=
  [⟨(.some 36), (.mv (.tmp 0)), .none⟩,
   ⟨(.some 37), (.mv (.tmp 5)), .none⟩,
   ⟨(.some 38), (.sll 3 (.tmp 36) (.some (.tmp 37)) .none .none), .none⟩,
   ⟨.none, (.clr 3 [(.B .false), (.I .i64 0), (.S [])] (.tmp 38)), .none⟩]
def f43g13 : List RO :=
  [⟨(.some 39), (.mv (.tmp 0)), .none⟩,
   ⟨(.some 40), (.mv (.tmp 5)), .none⟩,
   ⟨(.some 41), (.sll 3 (.tmp 39) .none (.some (.tmp 40)) .none), .none⟩,
   ⟨(.some 4), (.mv (.tmp 41)), .none⟩]
def f43c : RCode := (.seq (.reg .false f43g0) (.seq (.reg .false f43g1) (.seq (.seq (.reg .false f43g2) (.cond (.tmp 12) (.seq (.reg .false f43g3) .ret) .skip)) (.seq (.seq (.reg .false f43g4) (.block 0 (.loop f43b11))) (.seq (.reg .false f43g12) (.seq (.reg .false f43g13) .ret))))))
def f43r : List RRes := [(.tmp 4)]
attribute [push_cast] f43g0 f43g1 f43g2 f43g3 f43g4 f43g5 f43g6 f43g7 f43g8 f43g9 f43g10 f43g12 f43g13
def L43_0 (N : Nat) : Nat → Int → Int → (List Frame) → (List Frame) → Int → (List Frame) → Option (Int × (List Frame) × Inbox × (List Frame))
  | 0, _, _, _, _, _, _ => none
  | m1+1, a2, a3, a4, a5, a6, a7 => if? (decide (a3 < (a5.length : Int))) (get? a5 (a3) fun x8 => bd? (F44 N x8 (Inbox.mk a6 a7) a4) fun v9 => if? (v9.1) (ck .i64 (a3 + 1) (L43_0 N m1 a2 (a3 + 1) v9.2.2 a5 v9.2.1.Next v9.2.1.Ahead)) (get? a5 (a2) fun x10 => ck .i64 (a2 + 1) (ck .i64 (a3 + 1) (L43_0 N m1 (a2 + 1) (a3 + 1) v9.2.2 (a5.set a2.toNat x8) v9.2.1.Next v9.2.1.Ahead)))) (gd? (0 ≤ a2) (gd? (a2.toNat ≤ a5.length) (gd? (a2.toNat + (a5.length - a2.toNat) ≤ a5.length) (gd? (a2.toNat ≤ (a5.take a2.toNat ++ List.replicate (a5.length - a2.toNat) (Frame.mk false (0 : Int) ([] : Str)) ++ a5.drop (a2.toNat + (a5.length - a2.toNat))).length) (some ((a2.toNat - 0 : Int), (a5.take a2.toNat ++ List.replicate (a5.length - a2.toNat) (Frame.mk false (0 : Int) ([] : Str)) ++ a5.drop (a2.toNat + (a5.length - a2.toNat))), (Inbox.mk a6 a7), a4))))))
def I43_0 (N : Nat) (r : (Int × (List Frame) × Inbox × (List Frame))) (n : Nat) (s : AState) : Prop := ∃ (a2 : Int) (a3 : Int) (a4 : (List Frame)) (a5 : (List Frame)) (a6 : Int) (a7 : (List Frame)), L43_0 N n a2 a3 a4 a5 a6 a7 = some r ∧ s = ⟨envL [(0, .sl (.B 0) 3 0 a5.length), (1, .clo 44 [.ptr (.B 1) 0, .ptr (.B 2) 0]), (5, .D (.I .i64 a2)), (6, .D (.I .i64 a3))], ownL [some (.row true 3 (a5.map Frame.row)), some (.box [.D (.I .i64 a6), .D (.L (a7.map Frame.row))]), some (.box [.sl (.O 0) 3 0 a4.length]), none], ownL [some (.row true 3 (a4.map Frame.row))], 1⟩
def F43 (N : Nat) (q0 : (List Frame)) (q1 : Inbox) (q2 : (List Frame)) : Option (Int × (List Frame) × Inbox × (List Frame)) := bd? (F52 N q0 q1 q2) fun v1 => gd? (v1.2.1.length = q0.length) (if? ((v1.1 == (-1))) (some ((v1.2.1.length : Int), v1.2.1, v1.2.2.1, v1.2.2.2)) (ck .i64 (v1.1 + 1) (L43_0 N N v1.1 (v1.1 + 1) v1.2.2.2 v1.2.1 v1.2.2.1.Next v1.2.2.1.Ahead)))
theorem c43 (N : Nat) (q0 : (List Frame)) (q1 : Inbox) (q2 : (List Frame)) (r : (Int × (List Frame) × Inbox × (List Frame))) (h : F43 N q0 q1 q2 = some r) : ACall Try.prog 43 [.sl (.B 0) 3 0 q0.length, .clo 44 [.ptr (.B 1) 0, .ptr (.B 2) 0]] [some (.row true 3 (q0.map Frame.row)), some (.box [.D (.I .i64 q1.Next), .D (.L (q1.Ahead.map Frame.row))]), some (.box [.sl (.B 3) 3 0 q2.length]), some (.row true 3 (q2.map Frame.row))] (.sl (.B 0) 3 0 r.1.toNat) [some (.row true 3 (r.2.1.map Frame.row)), some (.box [.D (.I .i64 r.2.2.1.Next), .D (.L (r.2.2.1.Ahead.map Frame.row))]), some (.box [.sl (.O 0) 3 0 r.2.2.2.length]), none] [.row true 3 (r.2.2.2.map Frame.row)] := by
  refine ACall.of_bodyM [10, 28] [3] (fn := Try.f43) (rc := f43c) (rs := f43r) Try.func43 rfl rfl (by kernel_rfl) (by kernel_rfl) (by kernel_rfl) (by rw [Try.ntmps43]; simp) (by decide) ?_
  unfold F43 at h
  unfold f43c f43r
  rw [entryM_eq _ _ _ _ _ (by simp (config := { maxSteps := 1000000 }) (disch := first | assumption | (simp; done) | omega | (simp; omega)) only [push_cast, reduceCtorEq, Nat.reduceEqDiff, Nat.reduceAdd, Nat.reduceSub, Nat.reduceMul, Nat.reduceLeDiff, Nat.reduceLT, Int.reduceEq, Int.reduceNe, Int.reduceLT, Int.reduceLE, Int.reduceGT, Int.reduceGE, Int.reduceBEq, Int.reduceBNe, ↓reduceIte] <;> rfl) (by simp (config := { maxSteps := 1000000 }) (disch := first | assumption | (simp; done) | omega | (simp; omega)) only [push_cast, reduceCtorEq, Nat.reduceEqDiff, Nat.reduceAdd, Nat.reduceSub, Nat.reduceMul, Nat.reduceLeDiff, Nat.reduceLT, Int.reduceEq, Int.reduceNe, Int.reduceLT, Int.reduceLE, Int.reduceGT, Int.reduceGE, Int.reduceBEq, Int.reduceBNe, ↓reduceIte] <;> rfl)]
  obtain ⟨v1, h179, h⟩ := F_bd h
  simp (config := { maxSteps := 1000000 }) (disch := first | assumption | (simp; done) | omega | (simp; omega)) only [push_cast, reduceCtorEq, Nat.reduceEqDiff, Nat.reduceAdd, Nat.reduceSub, Nat.reduceMul, Nat.reduceLeDiff, Nat.reduceLT, Int.reduceEq, Int.reduceNe, Int.reduceLT, Int.reduceLE, Int.reduceGT, Int.reduceGE, Int.reduceBEq, Int.reduceBNe, ↓reduceIte]
  refine callE_of [.B 0, .B 1, .B 2, .O 0] (by rfl) (c52 N _ _ _ _ h179) (by decide) rfl (by simp (config := { maxSteps := 1000000 }) (disch := first | assumption | (simp; done) | omega | (simp; omega)) only [push_cast, reduceCtorEq, Nat.reduceEqDiff, Nat.reduceAdd, Nat.reduceSub, Nat.reduceMul, Nat.reduceLeDiff, Nat.reduceLT, Int.reduceEq, Int.reduceNe, Int.reduceLT, Int.reduceLE, Int.reduceGT, Int.reduceGE, Int.reduceBEq, Int.reduceBNe, ↓reduceIte] <;> rfl) (by simp (config := { maxSteps := 1000000 }) (disch := first | assumption | (simp; done) | omega | (simp; omega)) only [push_cast, reduceCtorEq, Nat.reduceEqDiff, Nat.reduceAdd, Nat.reduceSub, Nat.reduceMul, Nat.reduceLeDiff, Nat.reduceLT, Int.reduceEq, Int.reduceNe, Int.reduceLT, Int.reduceLE, Int.reduceGT, Int.reduceGE, Int.reduceBEq, Int.reduceBNe, ↓reduceIte] <;> rfl) ?_ ?_ ?_
  · simp (config := { maxSteps := 1000000 }) (disch := first | assumption | (simp; done) | omega | (simp; omega)) only [push_cast, reduceCtorEq, Nat.reduceEqDiff, Nat.reduceAdd, Nat.reduceSub, Nat.reduceMul, Nat.reduceLeDiff, Nat.reduceLT, Int.reduceEq, Int.reduceNe, Int.reduceLT, Int.reduceLE, Int.reduceGT, Int.reduceGE, Int.reduceBEq, Int.reduceBNe, ↓reduceIte] <;> rfl
  · simp (config := { maxSteps := 1000000 }) (disch := first | assumption | (simp; done) | omega | (simp; omega)) only [push_cast, reduceCtorEq, Nat.reduceEqDiff, Nat.reduceAdd, Nat.reduceSub, Nat.reduceMul, Nat.reduceLeDiff, Nat.reduceLT, Int.reduceEq, Int.reduceNe, Int.reduceLT, Int.reduceLE, Int.reduceGT, Int.reduceGE, Int.reduceBEq, Int.reduceBNe, ↓reduceIte] <;> rfl
  obtain ⟨h180, h⟩ := F_gd h
  try simp (disch := first | assumption | (simp; done) | omega | (simp; omega)) only [push_cast, reduceCtorEq, Nat.reduceEqDiff, Nat.reduceAdd, Nat.reduceSub, Nat.reduceMul, Nat.reduceLeDiff, Nat.reduceLT, Int.reduceEq, Int.reduceNe, Int.reduceLT, Int.reduceLE, Int.reduceGT, Int.reduceGE, Int.reduceBEq, Int.reduceBNe, ↓reduceIte] at h180
  rcases F_if h with ⟨h181, h⟩ | ⟨h181, h⟩
  · try simp (disch := first | assumption | (simp; done) | omega | (simp; omega)) only [push_cast, reduceCtorEq, Nat.reduceEqDiff, Nat.reduceAdd, Nat.reduceSub, Nat.reduceMul, Nat.reduceLeDiff, Nat.reduceLT, Int.reduceEq, Int.reduceNe, Int.reduceLT, Int.reduceLE, Int.reduceGT, Int.reduceGE, Int.reduceBEq, Int.reduceBNe, ↓reduceIte] at h181
    obtain rfl := Option.some.inj h
    simp (config := { maxSteps := 1000000 }) (disch := first | assumption | (simp; done) | omega | (simp; omega)) only [push_cast, reduceCtorEq, Nat.reduceEqDiff, Nat.reduceAdd, Nat.reduceSub, Nat.reduceMul, Nat.reduceLeDiff, Nat.reduceLT, Int.reduceEq, Int.reduceNe, Int.reduceLT, Int.reduceLE, Int.reduceGT, Int.reduceGE, Int.reduceBEq, Int.reduceBNe, ↓reduceIte, h180, h181]
    refine AEndW.of [1] (.inr rfl) (by decide) rfl ?_ ?_ ?_
    · simp (config := { maxSteps := 1000000 }) (disch := first | assumption | (simp; done) | omega | (simp; omega)) only [push_cast, reduceCtorEq, Nat.reduceEqDiff, Nat.reduceAdd, Nat.reduceSub, Nat.reduceMul, Nat.reduceLeDiff, Nat.reduceLT, Int.reduceEq, Int.reduceNe, Int.reduceLT, Int.reduceLE, Int.reduceGT, Int.reduceGE, Int.reduceBEq, Int.reduceBNe, ↓reduceIte, h180, h181] <;> rfl
    · simp (config := { maxSteps := 1000000 }) (disch := first | assumption | (simp; done) | omega | (simp; omega)) only [push_cast, reduceCtorEq, Nat.reduceEqDiff, Nat.reduceAdd, Nat.reduceSub, Nat.reduceMul, Nat.reduceLeDiff, Nat.reduceLT, Int.reduceEq, Int.reduceNe, Int.reduceLT, Int.reduceLE, Int.reduceGT, Int.reduceGE, Int.reduceBEq, Int.reduceBNe, ↓reduceIte, h180, h181] <;> rfl
    · simp (config := { maxSteps := 1000000 }) (disch := first | assumption | (simp; done) | omega | (simp; omega)) only [push_cast, reduceCtorEq, Nat.reduceEqDiff, Nat.reduceAdd, Nat.reduceSub, Nat.reduceMul, Nat.reduceLeDiff, Nat.reduceLT, Int.reduceEq, Int.reduceNe, Int.reduceLT, Int.reduceLE, Int.reduceGT, Int.reduceGE, Int.reduceBEq, Int.reduceBNe, ↓reduceIte, h180, h181] <;> rfl
  · try simp (disch := first | assumption | (simp; done) | omega | (simp; omega)) only [push_cast, reduceCtorEq, Nat.reduceEqDiff, Nat.reduceAdd, Nat.reduceSub, Nat.reduceMul, Nat.reduceLeDiff, Nat.reduceLT, Int.reduceEq, Int.reduceNe, Int.reduceLT, Int.reduceLE, Int.reduceGT, Int.reduceGE, Int.reduceBEq, Int.reduceBNe, ↓reduceIte] at h181
    obtain ⟨h182, h⟩ := F_ck h
    try simp (disch := first | assumption | (simp; done) | omega | (simp; omega)) only [push_cast, reduceCtorEq, Nat.reduceEqDiff, Nat.reduceAdd, Nat.reduceSub, Nat.reduceMul, Nat.reduceLeDiff, Nat.reduceLT, Int.reduceEq, Int.reduceNe, Int.reduceLT, Int.reduceLE, Int.reduceGT, Int.reduceGE, Int.reduceBEq, Int.reduceBNe, ↓reduceIte] at h182
    simp (config := { maxSteps := 1000000 }) (disch := first | assumption | (simp; done) | omega | (simp; omega)) only [push_cast, reduceCtorEq, Nat.reduceEqDiff, Nat.reduceAdd, Nat.reduceSub, Nat.reduceMul, Nat.reduceLeDiff, Nat.reduceLT, Int.reduceEq, Int.reduceNe, Int.reduceLT, Int.reduceLE, Int.reduceGT, Int.reduceGE, Int.reduceBEq, Int.reduceBNe, ↓reduceIte, h180, h181, h182]
    refine loop_of (I43_0 N _) N [0, 1, 5, 6] [1] (by decide) ⟨v1.1, (v1.1 + 1), v1.2.2.2, v1.2.1, v1.2.2.1.Next, v1.2.2.1.Ahead, h, ?_⟩ ?_
    · rw [wk_mk]
      simp (config := { maxSteps := 1000000 }) (disch := first | assumption | (simp; done) | omega | (simp; omega)) only [push_cast, reduceCtorEq, Nat.reduceEqDiff, Nat.reduceAdd, Nat.reduceSub, Nat.reduceMul, Nat.reduceLeDiff, Nat.reduceLT, Int.reduceEq, Int.reduceNe, Int.reduceLT, Int.reduceLE, Int.reduceGT, Int.reduceGE, Int.reduceBEq, Int.reduceBNe, ↓reduceIte, h180, h181, h182] <;> rfl
    · rintro n s ⟨a2, a3, a4, a5, a6, a7, h, rfl⟩
      cases n with
      | zero => exact absurd h (by simp [L43_0])
      | succ m1 =>
        rw [L43_0] at h
        unfold f43b11
        rcases F_if h with ⟨h183, h⟩ | ⟨h183, h⟩
        · try simp (disch := first | assumption | (simp; done) | omega | (simp; omega)) only [push_cast, reduceCtorEq, Nat.reduceEqDiff, Nat.reduceAdd, Nat.reduceSub, Nat.reduceMul, Nat.reduceLeDiff, Nat.reduceLT, Int.reduceEq, Int.reduceNe, Int.reduceLT, Int.reduceLE, Int.reduceGT, Int.reduceGE, Int.reduceBEq, Int.reduceBNe, ↓reduceIte] at h183
          obtain ⟨x8, h184, h185, h⟩ := F_get h
          have h187 := get_lt h184 h185
          have h186 := map_get Frame.row h185
          try simp (disch := first | assumption | (simp; done) | omega | (simp; omega)) only [push_cast, reduceCtorEq, Nat.reduceEqDiff, Nat.reduceAdd, Nat.reduceSub, Nat.reduceMul, Nat.reduceLeDiff, Nat.reduceLT, Int.reduceEq, Int.reduceNe, Int.reduceLT, Int.reduceLE, Int.reduceGT, Int.reduceGE, Int.reduceBEq, Int.reduceBNe, ↓reduceIte] at h186
          try simp (disch := first | assumption | (simp; done) | omega | (simp; omega)) only [push_cast, reduceCtorEq, Nat.reduceEqDiff, Nat.reduceAdd, Nat.reduceSub, Nat.reduceMul, Nat.reduceLeDiff, Nat.reduceLT, Int.reduceEq, Int.reduceNe, Int.reduceLT, Int.reduceLE, Int.reduceGT, Int.reduceGE, Int.reduceBEq, Int.reduceBNe, ↓reduceIte] at h187
          obtain ⟨v9, h188, h⟩ := F_bd h
          simp (config := { maxSteps := 1000000 }) (disch := first | assumption | (simp; done) | omega | (simp; omega)) only [push_cast, reduceCtorEq, Nat.reduceEqDiff, Nat.reduceAdd, Nat.reduceSub, Nat.reduceMul, Nat.reduceLeDiff, Nat.reduceLT, Int.reduceEq, Int.reduceNe, Int.reduceLT, Int.reduceLE, Int.reduceGT, Int.reduceGE, Int.reduceBEq, Int.reduceBNe, ↓reduceIte, h180, h181, h182, h183, h184, h186, h187]
          refine callE_of [.B 1, .B 2, .O 0] (by rfl) (c44 N _ _ _ _ h188) (by decide) rfl (by simp (config := { maxSteps := 1000000 }) (disch := first | assumption | (simp; done) | omega | (simp; omega)) only [push_cast, reduceCtorEq, Nat.reduceEqDiff, Nat.reduceAdd, Nat.reduceSub, Nat.reduceMul, Nat.reduceLeDiff, Nat.reduceLT, Int.reduceEq, Int.reduceNe, Int.reduceLT, Int.reduceLE, Int.reduceGT, Int.reduceGE, Int.reduceBEq, Int.reduceBNe, ↓reduceIte] <;> rfl) (by simp (config := { maxSteps := 1000000 }) (disch := first | assumption | (simp; done) | omega | (simp; omega)) only [push_cast, reduceCtorEq, Nat.reduceEqDiff, Nat.reduceAdd, Nat.reduceSub, Nat.reduceMul, Nat.reduceLeDiff, Nat.reduceLT, Int.reduceEq, Int.reduceNe, Int.reduceLT, Int.reduceLE, Int.reduceGT, Int.reduceGE, Int.reduceBEq, Int.reduceBNe, ↓reduceIte] <;> rfl) ?_ ?_ ?_
          · simp (config := { maxSteps := 1000000 }) (disch := first | assumption | (simp; done) | omega | (simp; omega)) only [push_cast, reduceCtorEq, Nat.reduceEqDiff, Nat.reduceAdd, Nat.reduceSub, Nat.reduceMul, Nat.reduceLeDiff, Nat.reduceLT, Int.reduceEq, Int.reduceNe, Int.reduceLT, Int.reduceLE, Int.reduceGT, Int.reduceGE, Int.reduceBEq, Int.reduceBNe, ↓reduceIte, h180, h181, h182, h183, h184, h186, h187] <;> rfl
          · simp (config := { maxSteps := 1000000 }) (disch := first | assumption | (simp; done) | omega | (simp; omega)) only [push_cast, reduceCtorEq, Nat.reduceEqDiff, Nat.reduceAdd, Nat.reduceSub, Nat.reduceMul, Nat.reduceLeDiff, Nat.reduceLT, Int.reduceEq, Int.reduceNe, Int.reduceLT, Int.reduceLE, Int.reduceGT, Int.reduceGE, Int.reduceBEq, Int.reduceBNe, ↓reduceIte, h180, h181, h182, h183, h184, h186, h187] <;> rfl
          rcases F_if h with ⟨h189, h⟩ | ⟨h189, h⟩
          · try simp (disch := first | assumption | (simp; done) | omega | (simp; omega)) only [push_cast, reduceCtorEq, Nat.reduceEqDiff, Nat.reduceAdd, Nat.reduceSub, Nat.reduceMul, Nat.reduceLeDiff, Nat.reduceLT, Int.reduceEq, Int.reduceNe, Int.reduceLT, Int.reduceLE, Int.reduceGT, Int.reduceGE, Int.reduceBEq, Int.reduceBNe, ↓reduceIte] at h189
            obtain ⟨h190, h⟩ := F_ck h
            try simp (disch := first | assumption | (simp; done) | omega | (simp; omega)) only [push_cast, reduceCtorEq, Nat.reduceEqDiff, Nat.reduceAdd, Nat.reduceSub, Nat.reduceMul, Nat.reduceLeDiff, Nat.reduceLT, Int.reduceEq, Int.reduceNe, Int.reduceLT, Int.reduceLE, Int.reduceGT, Int.reduceGE, Int.reduceBEq, Int.reduceBNe, ↓reduceIte] at h190
            simp (config := { maxSteps := 1000000 }) (disch := first | assumption | (simp; done) | omega | (simp; omega)) only [push_cast, reduceCtorEq, Nat.reduceEqDiff, Nat.reduceAdd, Nat.reduceSub, Nat.reduceMul, Nat.reduceLeDiff, Nat.reduceLT, Int.reduceEq, Int.reduceNe, Int.reduceLT, Int.reduceLE, Int.reduceGT, Int.reduceGE, Int.reduceBEq, Int.reduceBNe, ↓reduceIte, h180, h181, h182, h183, h184, h186, h187, h189, h190]
            refine lpK_of m1 [0, 1, 5, 6] [2] (by omega) (by decide) ⟨a2, (a3 + 1), v9.2.2, a5, v9.2.1.Next, v9.2.1.Ahead, h, ?_⟩
            rw [wk_mk]
            simp (config := { maxSteps := 1000000 }) (disch := first | assumption | (simp; done) | omega | (simp; omega)) only [push_cast, reduceCtorEq, Nat.reduceEqDiff, Nat.reduceAdd, Nat.reduceSub, Nat.reduceMul, Nat.reduceLeDiff, Nat.reduceLT, Int.reduceEq, Int.reduceNe, Int.reduceLT, Int.reduceLE, Int.reduceGT, Int.reduceGE, Int.reduceBEq, Int.reduceBNe, ↓reduceIte, h180, h181, h182, h183, h184, h186, h187, h189, h190] <;> rfl
          · try simp (disch := first | assumption | (simp; done) | omega | (simp; omega)) only [push_cast, reduceCtorEq, Nat.reduceEqDiff, Nat.reduceAdd, Nat.reduceSub, Nat.reduceMul, Nat.reduceLeDiff, Nat.reduceLT, Int.reduceEq, Int.reduceNe, Int.reduceLT, Int.reduceLE, Int.reduceGT, Int.reduceGE, Int.reduceBEq, Int.reduceBNe, ↓reduceIte] at h189
            obtain ⟨x10, h191, h192, h⟩ := F_get h
            have h194 := get_lt h191 h192
            have h193 := map_get Frame.row h192
            try simp (disch := first | assumption | (simp; done) | omega | (simp; omega)) only [push_cast, reduceCtorEq, Nat.reduceEqDiff, Nat.reduceAdd, Nat.reduceSub, Nat.reduceMul, Nat.reduceLeDiff, Nat.reduceLT, Int.reduceEq, Int.reduceNe, Int.reduceLT, Int.reduceLE, Int.reduceGT, Int.reduceGE, Int.reduceBEq, Int.reduceBNe, ↓reduceIte] at h193
            try simp (disch := first | assumption | (simp; done) | omega | (simp; omega)) only [push_cast, reduceCtorEq, Nat.reduceEqDiff, Nat.reduceAdd, Nat.reduceSub, Nat.reduceMul, Nat.reduceLeDiff, Nat.reduceLT, Int.reduceEq, Int.reduceNe, Int.reduceLT, Int.reduceLE, Int.reduceGT, Int.reduceGE, Int.reduceBEq, Int.reduceBNe, ↓reduceIte] at h194
            obtain ⟨h195, h⟩ := F_ck h
            try simp (disch := first | assumption | (simp; done) | omega | (simp; omega)) only [push_cast, reduceCtorEq, Nat.reduceEqDiff, Nat.reduceAdd, Nat.reduceSub, Nat.reduceMul, Nat.reduceLeDiff, Nat.reduceLT, Int.reduceEq, Int.reduceNe, Int.reduceLT, Int.reduceLE, Int.reduceGT, Int.reduceGE, Int.reduceBEq, Int.reduceBNe, ↓reduceIte] at h195
            obtain ⟨h196, h⟩ := F_ck h
            try simp (disch := first | assumption | (simp; done) | omega | (simp; omega)) only [push_cast, reduceCtorEq, Nat.reduceEqDiff, Nat.reduceAdd, Nat.reduceSub, Nat.reduceMul, Nat.reduceLeDiff, Nat.reduceLT, Int.reduceEq, Int.reduceNe, Int.reduceLT, Int.reduceLE, Int.reduceGT, Int.reduceGE, Int.reduceBEq, Int.reduceBNe, ↓reduceIte] at h196
            simp (config := { maxSteps := 1000000 }) (disch := first | assumption | (simp; done) | omega | (simp; omega)) only [push_cast, reduceCtorEq, Nat.reduceEqDiff, Nat.reduceAdd, Nat.reduceSub, Nat.reduceMul, Nat.reduceLeDiff, Nat.reduceLT, Int.reduceEq, Int.reduceNe, Int.reduceLT, Int.reduceLE, Int.reduceGT, Int.reduceGE, Int.reduceBEq, Int.reduceBNe, ↓reduceIte, h180, h181, h182, h183, h184, h186, h187, h189, h191, h193, h194, h195, h196]
            refine lpK_of m1 [0, 1, 5, 6] [2] (by omega) (by decide) ⟨(a2 + 1), (a3 + 1), v9.2.2, (a5.set a2.toNat x8), v9.2.1.Next, v9.2.1.Ahead, h, ?_⟩
            rw [wk_mk]
            simp (config := { maxSteps := 1000000 }) (disch := first | assumption | (simp; done) | omega | (simp; omega)) only [push_cast, reduceCtorEq, Nat.reduceEqDiff, Nat.reduceAdd, Nat.reduceSub, Nat.reduceMul, Nat.reduceLeDiff, Nat.reduceLT, Int.reduceEq, Int.reduceNe, Int.reduceLT, Int.reduceLE, Int.reduceGT, Int.reduceGE, Int.reduceBEq, Int.reduceBNe, ↓reduceIte, h180, h181, h182, h183, h184, h186, h187, h189, h191, h193, h194, h195, h196] <;> rfl
        · try simp (disch := first | assumption | (simp; done) | omega | (simp; omega)) only [push_cast, reduceCtorEq, Nat.reduceEqDiff, Nat.reduceAdd, Nat.reduceSub, Nat.reduceMul, Nat.reduceLeDiff, Nat.reduceLT, Int.reduceEq, Int.reduceNe, Int.reduceLT, Int.reduceLE, Int.reduceGT, Int.reduceGE, Int.reduceBEq, Int.reduceBNe, ↓reduceIte] at h183
          obtain ⟨h197, h⟩ := F_gd h
          try simp (disch := first | assumption | (simp; done) | omega | (simp; omega)) only [push_cast, reduceCtorEq, Nat.reduceEqDiff, Nat.reduceAdd, Nat.reduceSub, Nat.reduceMul, Nat.reduceLeDiff, Nat.reduceLT, Int.reduceEq, Int.reduceNe, Int.reduceLT, Int.reduceLE, Int.reduceGT, Int.reduceGE, Int.reduceBEq, Int.reduceBNe, ↓reduceIte] at h197
          obtain ⟨h198, h⟩ := F_gd h
          try simp (disch := first | assumption | (simp; done) | omega | (simp; omega)) only [push_cast, reduceCtorEq, Nat.reduceEqDiff, Nat.reduceAdd, Nat.reduceSub, Nat.reduceMul, Nat.reduceLeDiff, Nat.reduceLT, Int.reduceEq, Int.reduceNe, Int.reduceLT, Int.reduceLE, Int.reduceGT, Int.reduceGE, Int.reduceBEq, Int.reduceBNe, ↓reduceIte] at h198
          obtain ⟨h199, h⟩ := F_gd h
          try simp (disch := first | assumption | (simp; done) | omega | (simp; omega)) only [push_cast, reduceCtorEq, Nat.reduceEqDiff, Nat.reduceAdd, Nat.reduceSub, Nat.reduceMul, Nat.reduceLeDiff, Nat.reduceLT, Int.reduceEq, Int.reduceNe, Int.reduceLT, Int.reduceLE, Int.reduceGT, Int.reduceGE, Int.reduceBEq, Int.reduceBNe, ↓reduceIte] at h199
          obtain ⟨h200, h⟩ := F_gd h
          try simp (disch := first | assumption | (simp; done) | omega | (simp; omega)) only [push_cast, reduceCtorEq, Nat.reduceEqDiff, Nat.reduceAdd, Nat.reduceSub, Nat.reduceMul, Nat.reduceLeDiff, Nat.reduceLT, Int.reduceEq, Int.reduceNe, Int.reduceLT, Int.reduceLE, Int.reduceGT, Int.reduceGE, Int.reduceBEq, Int.reduceBNe, ↓reduceIte] at h200
          obtain rfl := Option.some.inj h
          simp (config := { maxSteps := 1000000 }) (disch := first | assumption | (simp; done) | omega | (simp; omega)) only [push_cast, reduceCtorEq, Nat.reduceEqDiff, Nat.reduceAdd, Nat.reduceSub, Nat.reduceMul, Nat.reduceLeDiff, Nat.reduceLT, Int.reduceEq, Int.reduceNe, Int.reduceLT, Int.reduceLE, Int.reduceGT, Int.reduceGE, Int.reduceBEq, Int.reduceBNe, ↓reduceIte, h180, h181, h182, h183, h197, h198, h199, h200]
          refine AEndW.of [0] (.inr rfl) (by decide) rfl ?_ ?_ ?_
          · simp (config := { maxSteps := 1000000 }) (disch := first | assumption | (simp; done) | omega | (simp; omega)) only [push_cast, reduceCtorEq, Nat.reduceEqDiff, Nat.reduceAdd, Nat.reduceSub, Nat.reduceMul, Nat.reduceLeDiff, Nat.reduceLT, Int.reduceEq, Int.reduceNe, Int.reduceLT, Int.reduceLE, Int.reduceGT, Int.reduceGE, Int.reduceBEq, Int.reduceBNe, ↓reduceIte, h180, h181, h182, h183, h197, h198, h199, h200] <;> rfl
          · simp (config := { maxSteps := 1000000 }) (disch := first | assumption | (simp; done) | omega | (simp; omega)) only [push_cast, reduceCtorEq, Nat.reduceEqDiff, Nat.reduceAdd, Nat.reduceSub, Nat.reduceMul, Nat.reduceLeDiff, Nat.reduceLT, Int.reduceEq, Int.reduceNe, Int.reduceLT, Int.reduceLE, Int.reduceGT, Int.reduceGE, Int.reduceBEq, Int.reduceBNe, ↓reduceIte, h180, h181, h182, h183, h197, h198, h199, h200] <;> rfl
          · simp (config := { maxSteps := 1000000 }) (disch := first | assumption | (simp; done) | omega | (simp; omega)) only [push_cast, reduceCtorEq, Nat.reduceEqDiff, Nat.reduceAdd, Nat.reduceSub, Nat.reduceMul, Nat.reduceLeDiff, Nat.reduceLT, Int.reduceEq, Int.reduceNe, Int.reduceLT, Int.reduceLE, Int.reduceGT, Int.reduceGE, Int.reduceBEq, Int.reduceBNe, ↓reduceIte, h180, h181, h182, h183, h197, h198, h199, h200] <;> rfl

/-! ## 41 slices.Insert[[]rivermark.api.Frame,rivermark.api.Frame] -/
def F41 (N : Nat) (p1 : Int) (q0 : (List Frame)) (q1 : (List Frame)) : Option (List Frame) := gd? (0 ≤ p1) (gd? (p1.toNat ≤ q0.length) (gd? ((q0.length + q1.length) * 32 ≤ 140737488355328) (some (q0.take p1.toNat ++ q1 ++ q0.drop p1.toNat))))
theorem c41 (N : Nat) (p1 : Int) (q0 : (List Frame)) (q1 : (List Frame)) (r : (List Frame)) (h : F41 N p1 q0 q1 = some r) : ACall Try.prog 41 [.sl (.B 0) 3 0 q0.length, .D (.I .i64 p1), .sl (.B 1) 3 0 q1.length] [some (.row true 3 (q0.map Frame.row)), some (.row true 3 (q1.map Frame.row))] (.sl (.O 0) 3 0 r.length) [none, none] [.row true 3 (r.map Frame.row)] := by
  unfold F41 at h
  obtain ⟨h1, h⟩ := F_gd h
  obtain ⟨h2, h⟩ := F_gd h
  obtain ⟨h3, h⟩ := F_gd h
  obtain rfl := Option.some.inj h
  have key := insert_ok (k := 3) (bytes := 32) (zs := [(.B .false), (.I .i64 0), (.S [])]) (fo := 50) (fr := 51) Try.func41 rfl (by kernel_rfl) (by kernel_rfl) Try.ntmps41 (by kernel_rfl) (by kernel_rfl) (by decide) (by decide) rfl
    (fun mt mt' o l o' l' c' es es' g1 g2 => ovl_ok Try.func50 (by kernel_rfl) (by kernel_rfl) (by kernel_rfl) (tS := 31) (tR := 4) (by kernel_rfl) Try.underlying31 (Option.some_get (by kernel_rfl : (Try.prog.info? 49).isSome = true)).symm mt mt' 3 o l o' l' c' es es' g1 g2)
    (q0.map Frame.row) (q1.map Frame.row) p1.toNat (by rw [List.length_map]; exact h2) (by rw [Frame.uni]; trivial) Frame.one (by rw [Frame.uni]; trivial) Frame.one (by rw [List.length_map, List.length_map]; exact h3)
  rw [List.length_map, List.length_map, Int.toNat_of_nonneg h1, ← List.map_take, ← List.map_drop, ← List.map_append, ← List.map_append] at key
  have hl : (q0.take p1.toNat ++ q1 ++ q0.drop p1.toNat).length = q0.length + q1.length := by simp; omega
  rw [hl]
  exact key

end Go.Proofs.Try

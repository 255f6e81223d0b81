/- Printed by a program: what the functions compute, and that they do (part 1). -/
import Derived.Test.YtakffbnhhfkipaaProg
import Derived.Test.YtakffbnhhfkipaaE26b
import Derived.Test.YtakffbnhhfkipaaE29
set_option linter.unusedSimpArgs false
set_option linter.unusedVariables false
set_option maxRecDepth 8000
namespace Go.Proofs.Try
open Go.Eng Go.RowKit
structure Outbox where
  Base : Int
  Acked : Int
  Summary : Str
  Queue : (List Str)
  deriving DecidableEq, Inhabited
def Outbox.row (x : Outbox) : List DV := [.I .i64 x.Base, .I .i64 x.Acked, .S x.Summary, .L (x.Queue.map rS)]
theorem Outbox.uni {xs : List Outbox} : Uni 4 (xs.map Outbox.row) = True := uni_map (f := Outbox.row) fun _ => rfl
theorem Outbox.one {xs : List Outbox} : oneL (xs.map Outbox.row) = true := one_map (f := Outbox.row) fun _ => rfl
attribute [push_cast] Outbox.row Outbox.uni Outbox.one
attribute [simp] Outbox.uni Outbox.one
structure Frame where
  Sum : Bool
  Seq : Int
  Body : Str
  deriving DecidableEq, Inhabited
def Frame.row (x : Frame) : List DV := [.B x.Sum, .I .i64 x.Seq, .S x.Body]
theorem Frame.uni {xs : List Frame} : Uni 3 (xs.map Frame.row) = True := uni_map (f := Frame.row) fun _ => rfl
theorem Frame.one {xs : List Frame} : oneL (xs.map Frame.row) = true := one_map (f := Frame.row) fun _ => rfl
attribute [push_cast] Frame.row Frame.uni Frame.one
attribute [simp] Frame.uni Frame.one
structure Inbox where
  Next : Int
  Ahead : (List Frame)
  deriving DecidableEq, Inhabited
def Inbox.row (x : Inbox) : List DV := [.I .i64 x.Next, .L (x.Ahead.map Frame.row)]
theorem Inbox.uni {xs : List Inbox} : Uni 2 (xs.map Inbox.row) = True := uni_map (f := Inbox.row) fun _ => rfl
theorem Inbox.one {xs : List Inbox} : oneL (xs.map Inbox.row) = true := one_map (f := Inbox.row) fun _ => rfl
attribute [push_cast] Inbox.row Inbox.uni Inbox.one
attribute [simp] Inbox.uni Inbox.one
structure ROut where
  O : Outbox
  E : Int
  deriving DecidableEq, Inhabited
def ROut.row (x : ROut) : List DV := [.I .i64 x.O.Base, .I .i64 x.O.Acked, .S x.O.Summary, .L (x.O.Queue.map rS), .I .i64 x.E]
theorem ROut.uni {xs : List ROut} : Uni 5 (xs.map ROut.row) = True := uni_map (f := ROut.row) fun _ => rfl
theorem ROut.one {xs : List ROut} : oneL (xs.map ROut.row) = true := one_map (f := ROut.row) fun _ => rfl
attribute [push_cast] ROut.row ROut.uni ROut.one
attribute [simp] ROut.uni ROut.one
structure RSent where
  L : (List Frame)
  E : Int
  deriving DecidableEq, Inhabited
def RSent.row (x : RSent) : List DV := [.L (x.L.map Frame.row), .I .i64 x.E]
theorem RSent.uni {xs : List RSent} : Uni 2 (xs.map RSent.row) = True := uni_map (f := RSent.row) fun _ => rfl
theorem RSent.one {xs : List RSent} : oneL (xs.map RSent.row) = true := one_map (f := RSent.row) fun _ => rfl
attribute [push_cast] RSent.row RSent.uni RSent.one
attribute [simp] RSent.uni RSent.one
/-! ## 8 rivermark.rivermarklaw11.fewOut -/
def f8g0 : List RO :=
  [⟨(.some 1), (.box (.tmp 0)), .none⟩,
   ⟨(.some 2), (.mv (.const (.bool .false))), .none⟩]
def f8g1 : List RO :=
  [⟨(.some 4), (.faddr 3 (.tmp 1)), .none⟩,
   ⟨(.some 5), (.load .none (.tmp 4)), .none⟩,
   ⟨(.some 6), (.len .false (.tmp 5)), .none⟩,
   ⟨(.some 7), (.bin .gtr (.tmp 6) (.const (.int .i64 40))), .none⟩,
   ⟨(.some 8), (.mv (.tmp 7)), .none⟩,
   ⟨(.some 9), (.faddr 3 (.tmp 1)), (.some (8, .true))⟩,
   ⟨(.some 10), (.load .none (.tmp 9)), (.some (8, .true))⟩,
   ⟨(.some 11), (.len .false (.tmp 10)), (.some (8, .true))⟩,
   ⟨(.some 12), (.bin .lss (.tmp 11) (.const (.int .i64 1000))), (.some (8, .true))⟩,
   ⟨(.some 13), (.pick (.tmp 8) (.tmp 12) (.const (.bool .false))), .none⟩,
   ⟨(.some 14), (.mv (.tmp 13)), .none⟩,
   ⟨(.some 15), (.faddr 3 (.tmp 1)), (.some (14, .false))⟩,
   ⟨(.some 16), (.load .none (.tmp 15)), (.some (14, .false))⟩,
   ⟨(.some 17), (.len .false (.tmp 16)), (.some (14, .false))⟩,
   ⟨(.some 18), (.bin .gtr (.tmp 17) (.const (.int .i64 1001))), (.some (14, .false))⟩,
   ⟨(.some 19), (.pick (.tmp 14) (.const (.bool .true)) (.tmp 18)), .none⟩,
   ⟨(.some 20), (.mv (.tmp 19)), .none⟩,
   ⟨(.some 21), (.faddr 2 (.tmp 1)), (.some (20, .false))⟩,
   ⟨(.some 22), (.load .none (.tmp 21)), (.some (20, .false))⟩,
   ⟨(.some 23), (.len .true (.tmp 22)), (.some (20, .false))⟩,
   ⟨(.some 24), (.bin .gtr (.tmp 23) (.const (.int .i64 100))), (.some (20, .false))⟩,
   ⟨(.some 25), (.pick (.tmp 20) (.const (.bool .true)) (.tmp 24)), .none⟩]
def f8g2 : List RO :=
  [⟨(.some 2), (.mv (.const (.bool .false))), .none⟩]
def f8g3 : List RO :=
  [⟨(.some 3), (.mv (.const (.int .i64 0))), .none⟩]
def f8g4 : List RO :=
  [⟨(.some 26), (.mv (.tmp 3)), .none⟩,
   ⟨(.some 27), (.faddr 3 (.tmp 1)), .none⟩,
   ⟨(.some 28), (.load .none (.tmp 27)), .none⟩,
   ⟨(.some 29), (.len .false (.tmp 28)), .none⟩,
   ⟨(.some 30), (.bin .lss (.tmp 26) (.tmp 29)), .none⟩]
def f8g5 : List RO :=
  [⟨(.some 33), (.faddr 3 (.tmp 1)), .none⟩,
   ⟨(.some 34), (.load .none (.tmp 33)), .none⟩,
   ⟨(.some 35), (.mv (.tmp 3)), .none⟩,
   ⟨(.some 36), (.iaddr 1 (.tmp 34) (.tmp 35)), .none⟩,
   ⟨(.some 37), (.load .none (.tmp 36)), .none⟩,
   ⟨(.some 38), (.len .true (.tmp 37)), .none⟩,
   ⟨(.some 39), (.bin .gtr (.tmp 38) (.const (.int .i64 100))), .none⟩]
def f8g6 : List RO :=
  [⟨(.some 2), (.mv (.const (.bool .false))), .none⟩]
def f8g7 : List RO :=
  [⟨(.some 31), (.mv (.tmp 3)), .none⟩,
   ⟨(.some 32), (.bin .add (.tmp 31) (.const (.int .i64 1))), .none⟩,
   ⟨(.some 3), (.mv (.tmp 32)), .none⟩]
def f8b8 : RCode := (.seq (.seq (.reg .false f8g4) (.cond (.tmp 30) .skip (.exit 0))) (.seq (.block 1 (.seq (.reg .false f8g5) (.cond (.tmp 39) (.seq (.reg .false f8g6) .ret) .skip))) (.reg .false f8g7)))
def f8g9 : List RO :=
  [⟨(.some 2), (.mv (.const (.bool .true))), .none⟩]
def f8c : RCode := (.seq (.reg .false f8g0) (.seq (.seq (.reg .false f8g1) (.cond (.tmp 25) (.seq (.reg .false f8g2) .ret) .skip)) (.seq (.seq (.reg .false f8g3) (.block 0 (.loop f8b8))) (.seq (.reg .false f8g9) .ret))))
def f8r : List RRes := [(.tmp 2)]
attribute [push_cast] f8g0 f8g1 f8g2 f8g3 f8g4 f8g5 f8g6 f8g7 f8g9
def L8_0 (N : Nat) (p0 : Outbox) : Nat → Int → Option Bool
  | 0, _ => none
  | m1+1, a1 => if? (decide (a1 < (p0.Queue.length : Int))) (get? p0.Queue (a1) fun x2 => if? (decide ((x2.length : Int) > 100)) (some (false)) (ck .i64 (a1 + 1) (L8_0 N p0 m1 (a1 + 1)))) (some (true))
def I8_0 (N : Nat) (p0 : Outbox) (r : Bool) (n : Nat) (s : AState) : Prop := ∃ (a1 : Int), L8_0 N p0 n a1 = some r ∧ s = ⟨envL [(1, .ptr (.O 0) 0), (3, .D (.I .i64 a1))], ownL [], ownL [some (.box [.D (.I .i64 p0.Base), .D (.I .i64 p0.Acked), .D (.S p0.Summary), .D (.L (p0.Queue.map rS))])], 1⟩
def F8 (N : Nat) (p0 : Outbox) : Option Bool := if? (decide ((p0.Queue.length : Int) > 40)) (if? (decide ((p0.Queue.length : Int) < 1000)) (some (false)) (if? (decide ((p0.Queue.length : Int) > 1001)) (some (false)) (if? (decide ((p0.Summary.length : Int) > 100)) (some (false)) (L8_0 N p0 N 0)))) (if? (decide ((p0.Queue.length : Int) > 1001)) (some (false)) (if? (decide ((p0.Summary.length : Int) > 100)) (some (false)) (L8_0 N p0 N 0)))
theorem c8 (N : Nat) (p0 : Outbox) (r : Bool) (h : F8 N p0 = some r) : ACall Try.prog 8 [.agg [.D (.I .i64 p0.Base), .D (.I .i64 p0.Acked), .D (.S p0.Summary), .D (.L (p0.Queue.map rS))]] [] (.D (.B r)) [] [] := by
  refine ACall.of_bodyW [] (fn := Try.f8) (rc := f8c) (rs := f8r) Try.func8 rfl rfl (by kernel_rfl) (by kernel_rfl) (by kernel_rfl) (by rw [Try.ntmps8]; simp) ?_
  unfold F8 at h
  unfold f8c f8r
  rw [entry_eq _ _]
  rcases F_if h with ⟨h21, h⟩ | ⟨h21, h⟩
  · try simp (disch := first | assumption | (simp; done) | omega | (simp; omega)) only [push_cast, reduceCtorEq, Nat.reduceEqDiff, Nat.reduceAdd, Nat.reduceSub, Nat.reduceMul, Nat.reduceLeDiff, Nat.reduceLT, Int.reduceEq, Int.reduceNe, Int.reduceLT, Int.reduceLE, Int.reduceGT, Int.reduceGE, Int.reduceBEq, Int.reduceBNe, ↓reduceIte] at h21
    rcases F_if h with ⟨h22, h⟩ | ⟨h22, h⟩
    · try simp (disch := first | assumption | (simp; done) | omega | (simp; omega)) only [push_cast, reduceCtorEq, Nat.reduceEqDiff, Nat.reduceAdd, Nat.reduceSub, Nat.reduceMul, Nat.reduceLeDiff, Nat.reduceLT, Int.reduceEq, Int.reduceNe, Int.reduceLT, Int.reduceLE, Int.reduceGT, Int.reduceGE, Int.reduceBEq, Int.reduceBNe, ↓reduceIte] at h22
      obtain rfl := Option.some.inj h
      simp (config := { maxSteps := 1000000 }) (disch := first | assumption | (simp; done) | omega | (simp; omega)) only [push_cast, reduceCtorEq, Nat.reduceEqDiff, Nat.reduceAdd, Nat.reduceSub, Nat.reduceMul, Nat.reduceLeDiff, Nat.reduceLT, Int.reduceEq, Int.reduceNe, Int.reduceLT, Int.reduceLE, Int.reduceGT, Int.reduceGE, Int.reduceBEq, Int.reduceBNe, ↓reduceIte, h21, h22]
      refine e_ret (.inr rfl) ?_
      simp (config := { maxSteps := 1000000 }) (disch := first | assumption | (simp; done) | omega | (simp; omega)) only [push_cast, reduceCtorEq, Nat.reduceEqDiff, Nat.reduceAdd, Nat.reduceSub, Nat.reduceMul, Nat.reduceLeDiff, Nat.reduceLT, Int.reduceEq, Int.reduceNe, Int.reduceLT, Int.reduceLE, Int.reduceGT, Int.reduceGE, Int.reduceBEq, Int.reduceBNe, ↓reduceIte, aret, aresults, aresult, h21, h22]
      refine ⟨_, rfl, ?_⟩
      first | (simp (config := { maxSteps := 1000000 }) (disch := first | assumption | (simp; done) | omega | (simp; omega)) only [push_cast, reduceCtorEq, Nat.reduceEqDiff, Nat.reduceAdd, Nat.reduceSub, Nat.reduceMul, Nat.reduceLeDiff, Nat.reduceLT, Int.reduceEq, Int.reduceNe, Int.reduceLT, Int.reduceLE, Int.reduceGT, Int.reduceGE, Int.reduceBEq, Int.reduceBNe, ↓reduceIte, h21, h22] <;> rfl) | rfl
    · try simp (disch := first | assumption | (simp; done) | omega | (simp; omega)) only [push_cast, reduceCtorEq, Nat.reduceEqDiff, Nat.reduceAdd, Nat.reduceSub, Nat.reduceMul, Nat.reduceLeDiff, Nat.reduceLT, Int.reduceEq, Int.reduceNe, Int.reduceLT, Int.reduceLE, Int.reduceGT, Int.reduceGE, Int.reduceBEq, Int.reduceBNe, ↓reduceIte] at h22
      rcases F_if h with ⟨h23, h⟩ | ⟨h23, h⟩
      · try simp (disch := first | assumption | (simp; done) | omega | (simp; omega)) only [push_cast, reduceCtorEq, Nat.reduceEqDiff, Nat.reduceAdd, Nat.reduceSub, Nat.reduceMul, Nat.reduceLeDiff, Nat.reduceLT, Int.reduceEq, Int.reduceNe, Int.reduceLT, Int.reduceLE, Int.reduceGT, Int.reduceGE, Int.reduceBEq, Int.reduceBNe, ↓reduceIte] at h23
        obtain rfl := Option.some.inj h
        simp (config := { maxSteps := 1000000 }) (disch := first | assumption | (simp; done) | omega | (simp; omega)) only [push_cast, reduceCtorEq, Nat.reduceEqDiff, Nat.reduceAdd, Nat.reduceSub, Nat.reduceMul, Nat.reduceLeDiff, Nat.reduceLT, Int.reduceEq, Int.reduceNe, Int.reduceLT, Int.reduceLE, Int.reduceGT, Int.reduceGE, Int.reduceBEq, Int.reduceBNe, ↓reduceIte, h21, h22, h23]
        refine e_ret (.inr rfl) ?_
        simp (config := { maxSteps := 1000000 }) (disch := first | assumption | (simp; done) | omega | (simp; omega)) only [push_cast, reduceCtorEq, Nat.reduceEqDiff, Nat.reduceAdd, Nat.reduceSub, Nat.reduceMul, Nat.reduceLeDiff, Nat.reduceLT, Int.reduceEq, Int.reduceNe, Int.reduceLT, Int.reduceLE, Int.reduceGT, Int.reduceGE, Int.reduceBEq, Int.reduceBNe, ↓reduceIte, aret, aresults, aresult, h21, h22, h23]
        refine ⟨_, rfl, ?_⟩
        first | (simp (config := { maxSteps := 1000000 }) (disch := first | assumption | (simp; done) | omega | (simp; omega)) only [push_cast, reduceCtorEq, Nat.reduceEqDiff, Nat.reduceAdd, Nat.reduceSub, Nat.reduceMul, Nat.reduceLeDiff, Nat.reduceLT, Int.reduceEq, Int.reduceNe, Int.reduceLT, Int.reduceLE, Int.reduceGT, Int.reduceGE, Int.reduceBEq, Int.reduceBNe, ↓reduceIte, h21, h22, h23] <;> rfl) | rfl
      · try simp (disch := first | assumption | (simp; done) | omega | (simp; omega)) only [push_cast, reduceCtorEq, Nat.reduceEqDiff, Nat.reduceAdd, Nat.reduceSub, Nat.reduceMul, Nat.reduceLeDiff, Nat.reduceLT, Int.reduceEq, Int.reduceNe, Int.reduceLT, Int.reduceLE, Int.reduceGT, Int.reduceGE, Int.reduceBEq, Int.reduceBNe, ↓reduceIte] at h23
        rcases F_if h with ⟨h24, h⟩ | ⟨h24, h⟩
        · try simp (disch := first | assumption | (simp; done) | omega | (simp; omega)) only [push_cast, reduceCtorEq, Nat.reduceEqDiff, Nat.reduceAdd, Nat.reduceSub, Nat.reduceMul, Nat.reduceLeDiff, Nat.reduceLT, Int.reduceEq, Int.reduceNe, Int.reduceLT, Int.reduceLE, Int.reduceGT, Int.reduceGE, Int.reduceBEq, Int.reduceBNe, ↓reduceIte] at h24
          obtain rfl := Option.some.inj h
          simp (config := { maxSteps := 1000000 }) (disch := first | assumption | (simp; done) | omega | (simp; omega)) only [push_cast, reduceCtorEq, Nat.reduceEqDiff, Nat.reduceAdd, Nat.reduceSub, Nat.reduceMul, Nat.reduceLeDiff, Nat.reduceLT, Int.reduceEq, Int.reduceNe, Int.reduceLT, Int.reduceLE, Int.reduceGT, Int.reduceGE, Int.reduceBEq, Int.reduceBNe, ↓reduceIte, h21, h22, h23, h24]
          refine e_ret (.inr rfl) ?_
          simp (config := { maxSteps := 1000000 }) (disch := first | assumption | (simp; done) | omega | (simp; omega)) only [push_cast, reduceCtorEq, Nat.reduceEqDiff, Nat.reduceAdd, Nat.reduceSub, Nat.reduceMul, Nat.reduceLeDiff, Nat.reduceLT, Int.reduceEq, Int.reduceNe, Int.reduceLT, Int.reduceLE, Int.reduceGT, Int.reduceGE, Int.reduceBEq, Int.reduceBNe, ↓reduceIte, aret, aresults, aresult, h21, h22, h23, h24]
          refine ⟨_, rfl, ?_⟩
          first | (simp (config := { maxSteps := 1000000 }) (disch := first | assumption | (simp; done) | omega | (simp; omega)) only [push_cast, reduceCtorEq, Nat.reduceEqDiff, Nat.reduceAdd, Nat.reduceSub, Nat.reduceMul, Nat.reduceLeDiff, Nat.reduceLT, Int.reduceEq, Int.reduceNe, Int.reduceLT, Int.reduceLE, Int.reduceGT, Int.reduceGE, Int.reduceBEq, Int.reduceBNe, ↓reduceIte, h21, h22, h23, h24] <;> rfl) | rfl
        · try simp (disch := first | assumption | (simp; done) | omega | (simp; omega)) only [push_cast, reduceCtorEq, Nat.reduceEqDiff, Nat.reduceAdd, Nat.reduceSub, Nat.reduceMul, Nat.reduceLeDiff, Nat.reduceLT, Int.reduceEq, Int.reduceNe, Int.reduceLT, Int.reduceLE, Int.reduceGT, Int.reduceGE, Int.reduceBEq, Int.reduceBNe, ↓reduceIte] at h24
          simp (config := { maxSteps := 1000000 }) (disch := first | assumption | (simp; done) | omega | (simp; omega)) only [push_cast, reduceCtorEq, Nat.reduceEqDiff, Nat.reduceAdd, Nat.reduceSub, Nat.reduceMul, Nat.reduceLeDiff, Nat.reduceLT, Int.reduceEq, Int.reduceNe, Int.reduceLT, Int.reduceLE, Int.reduceGT, Int.reduceGE, Int.reduceBEq, Int.reduceBNe, ↓reduceIte, h21, h22, h23, h24]
          refine loop_of (I8_0 N p0 _) N [1, 3] [0] (by decide) ⟨0, h, ?_⟩ ?_
          · rw [wk_mk]
            simp (config := { maxSteps := 1000000 }) (disch := first | assumption | (simp; done) | omega | (simp; omega)) only [push_cast, reduceCtorEq, Nat.reduceEqDiff, Nat.reduceAdd, Nat.reduceSub, Nat.reduceMul, Nat.reduceLeDiff, Nat.reduceLT, Int.reduceEq, Int.reduceNe, Int.reduceLT, Int.reduceLE, Int.reduceGT, Int.reduceGE, Int.reduceBEq, Int.reduceBNe, ↓reduceIte, h21, h22, h23, h24] <;> rfl
          · rintro n s ⟨a1, h, rfl⟩
            cases n with
            | zero => exact absurd h (by simp [L8_0])
            | succ m1 =>
              rw [L8_0] at h
              unfold f8b8
              rcases F_if h with ⟨h25, h⟩ | ⟨h25, h⟩
              · try simp (disch := first | assumption | (simp; done) | omega | (simp; omega)) only [push_cast, reduceCtorEq, Nat.reduceEqDiff, Nat.reduceAdd, Nat.reduceSub, Nat.reduceMul, Nat.reduceLeDiff, Nat.reduceLT, Int.reduceEq, Int.reduceNe, Int.reduceLT, Int.reduceLE, Int.reduceGT, Int.reduceGE, Int.reduceBEq, Int.reduceBNe, ↓reduceIte] at h25
                obtain ⟨x2, h26, h27, h⟩ := F_get h
                have h29 := get_lt h26 h27
                have h28 := map_get rS h27
                try simp (disch := first | assumption | (simp; done) | omega | (simp; omega)) only [push_cast, reduceCtorEq, Nat.reduceEqDiff, Nat.reduceAdd, Nat.reduceSub, Nat.reduceMul, Nat.reduceLeDiff, Nat.reduceLT, Int.reduceEq, Int.reduceNe, Int.reduceLT, Int.reduceLE, Int.reduceGT, Int.reduceGE, Int.reduceBEq, Int.reduceBNe, ↓reduceIte] at h28
                try simp (disch := first | assumption | (simp; done) | omega | (simp; omega)) only [push_cast, reduceCtorEq, Nat.reduceEqDiff, Nat.reduceAdd, Nat.reduceSub, Nat.reduceMul, Nat.reduceLeDiff, Nat.reduceLT, Int.reduceEq, Int.reduceNe, Int.reduceLT, Int.reduceLE, Int.reduceGT, Int.reduceGE, Int.reduceBEq, Int.reduceBNe, ↓reduceIte] at h29
                rcases F_if h with ⟨h30, h⟩ | ⟨h30, h⟩
                · try simp (disch := first | assumption | (simp; done) | omega | (simp; omega)) only [push_cast, reduceCtorEq, Nat.reduceEqDiff, Nat.reduceAdd, Nat.reduceSub, Nat.reduceMul, Nat.reduceLeDiff, Nat.reduceLT, Int.reduceEq, Int.reduceNe, Int.reduceLT, Int.reduceLE, Int.reduceGT, Int.reduceGE, Int.reduceBEq, Int.reduceBNe, ↓reduceIte] at h30
                  obtain rfl := Option.some.inj h
                  simp (config := { maxSteps := 1000000 }) (disch := first | assumption | (simp; done) | omega | (simp; omega)) only [push_cast, reduceCtorEq, Nat.reduceEqDiff, Nat.reduceAdd, Nat.reduceSub, Nat.reduceMul, Nat.reduceLeDiff, Nat.reduceLT, Int.reduceEq, Int.reduceNe, Int.reduceLT, Int.reduceLE, Int.reduceGT, Int.reduceGE, Int.reduceBEq, Int.reduceBNe, ↓reduceIte, h21, h22, h23, h24, h25, h26, h28, h29, h30]
                  refine e_ret (.inr rfl) ?_
                  simp (config := { maxSteps := 1000000 }) (disch := first | assumption | (simp; done) | omega | (simp; omega)) only [push_cast, reduceCtorEq, Nat.reduceEqDiff, Nat.reduceAdd, Nat.reduceSub, Nat.reduceMul, Nat.reduceLeDiff, Nat.reduceLT, Int.reduceEq, Int.reduceNe, Int.reduceLT, Int.reduceLE, Int.reduceGT, Int.reduceGE, Int.reduceBEq, Int.reduceBNe, ↓reduceIte, aret, aresults, aresult, h21, h22, h23, h24, h25, h26, h28, h29, h30]
                  refine ⟨_, rfl, ?_⟩
                  first | (simp (config := { maxSteps := 1000000 }) (disch := first | assumption | (simp; done) | omega | (simp; omega)) only [push_cast, reduceCtorEq, Nat.reduceEqDiff, Nat.reduceAdd, Nat.reduceSub, Nat.reduceMul, Nat.reduceLeDiff, Nat.reduceLT, Int.reduceEq, Int.reduceNe, Int.reduceLT, Int.reduceLE, Int.reduceGT, Int.reduceGE, Int.reduceBEq, Int.reduceBNe, ↓reduceIte, h21, h22, h23, h24, h25, h26, h28, h29, h30] <;> rfl) | rfl
                · try simp (disch := first | assumption | (simp; done) | omega | (simp; omega)) only [push_cast, reduceCtorEq, Nat.reduceEqDiff, Nat.reduceAdd, Nat.reduceSub, Nat.reduceMul, Nat.reduceLeDiff, Nat.reduceLT, Int.reduceEq, Int.reduceNe, Int.reduceLT, Int.reduceLE, Int.reduceGT, Int.reduceGE, Int.reduceBEq, Int.reduceBNe, ↓reduceIte] at h30
                  obtain ⟨h31, h⟩ := F_ck h
                  try simp (disch := first | assumption | (simp; done) | omega | (simp; omega)) only [push_cast, reduceCtorEq, Nat.reduceEqDiff, Nat.reduceAdd, Nat.reduceSub, Nat.reduceMul, Nat.reduceLeDiff, Nat.reduceLT, Int.reduceEq, Int.reduceNe, Int.reduceLT, Int.reduceLE, Int.reduceGT, Int.reduceGE, Int.reduceBEq, Int.reduceBNe, ↓reduceIte] at h31
                  simp (config := { maxSteps := 1000000 }) (disch := first | assumption | (simp; done) | omega | (simp; omega)) only [push_cast, reduceCtorEq, Nat.reduceEqDiff, Nat.reduceAdd, Nat.reduceSub, Nat.reduceMul, Nat.reduceLeDiff, Nat.reduceLT, Int.reduceEq, Int.reduceNe, Int.reduceLT, Int.reduceLE, Int.reduceGT, Int.reduceGE, Int.reduceBEq, Int.reduceBNe, ↓reduceIte, h21, h22, h23, h24, h25, h26, h28, h29, h30, h31]
                  refine lpK_of m1 [1, 3] [0] (by omega) (by decide) ⟨(a1 + 1), h, ?_⟩
                  rw [wk_mk]
                  simp (config := { maxSteps := 1000000 }) (disch := first | assumption | (simp; done) | omega | (simp; omega)) only [push_cast, reduceCtorEq, Nat.reduceEqDiff, Nat.reduceAdd, Nat.reduceSub, Nat.reduceMul, Nat.reduceLeDiff, Nat.reduceLT, Int.reduceEq, Int.reduceNe, Int.reduceLT, Int.reduceLE, Int.reduceGT, Int.reduceGE, Int.reduceBEq, Int.reduceBNe, ↓reduceIte, h21, h22, h23, h24, h25, h26, h28, h29, h30, h31] <;> rfl
              · try simp (disch := first | assumption | (simp; done) | omega | (simp; omega)) only [push_cast, reduceCtorEq, Nat.reduceEqDiff, Nat.reduceAdd, Nat.reduceSub, Nat.reduceMul, Nat.reduceLeDiff, Nat.reduceLT, Int.reduceEq, Int.reduceNe, Int.reduceLT, Int.reduceLE, Int.reduceGT, Int.reduceGE, Int.reduceBEq, Int.reduceBNe, ↓reduceIte] at h25
                obtain rfl := Option.some.inj h
                simp (config := { maxSteps := 1000000 }) (disch := first | assumption | (simp; done) | omega | (simp; omega)) only [push_cast, reduceCtorEq, Nat.reduceEqDiff, Nat.reduceAdd, Nat.reduceSub, Nat.reduceMul, Nat.reduceLeDiff, Nat.reduceLT, Int.reduceEq, Int.reduceNe, Int.reduceLT, Int.reduceLE, Int.reduceGT, Int.reduceGE, Int.reduceBEq, Int.reduceBNe, ↓reduceIte, h21, h22, h23, h24, h25]
                refine e_ret (.inr rfl) ?_
                simp (config := { maxSteps := 1000000 }) (disch := first | assumption | (simp; done) | omega | (simp; omega)) only [push_cast, reduceCtorEq, Nat.reduceEqDiff, Nat.reduceAdd, Nat.reduceSub, Nat.reduceMul, Nat.reduceLeDiff, Nat.reduceLT, Int.reduceEq, Int.reduceNe, Int.reduceLT, Int.reduceLE, Int.reduceGT, Int.reduceGE, Int.reduceBEq, Int.reduceBNe, ↓reduceIte, aret, aresults, aresult, h21, h22, h23, h24, h25]
                refine ⟨_, rfl, ?_⟩
                first | (simp (config := { maxSteps := 1000000 }) (disch := first | assumption | (simp; done) | omega | (simp; omega)) only [push_cast, reduceCtorEq, Nat.reduceEqDiff, Nat.reduceAdd, Nat.reduceSub, Nat.reduceMul, Nat.reduceLeDiff, Nat.reduceLT, Int.reduceEq, Int.reduceNe, Int.reduceLT, Int.reduceLE, Int.reduceGT, Int.reduceGE, Int.reduceBEq, Int.reduceBNe, ↓reduceIte, h21, h22, h23, h24, h25] <;> rfl) | rfl
  · try simp (disch := first | assumption | (simp; done) | omega | (simp; omega)) only [push_cast, reduceCtorEq, Nat.reduceEqDiff, Nat.reduceAdd, Nat.reduceSub, Nat.reduceMul, Nat.reduceLeDiff, Nat.reduceLT, Int.reduceEq, Int.reduceNe, Int.reduceLT, Int.reduceLE, Int.reduceGT, Int.reduceGE, Int.reduceBEq, Int.reduceBNe, ↓reduceIte] at h21
    rcases F_if h with ⟨h32, h⟩ | ⟨h32, h⟩
    · try simp (disch := first | assumption | (simp; done) | omega | (simp; omega)) only [push_cast, reduceCtorEq, Nat.reduceEqDiff, Nat.reduceAdd, Nat.reduceSub, Nat.reduceMul, Nat.reduceLeDiff, Nat.reduceLT, Int.reduceEq, Int.reduceNe, Int.reduceLT, Int.reduceLE, Int.reduceGT, Int.reduceGE, Int.reduceBEq, Int.reduceBNe, ↓reduceIte] at h32
      obtain rfl := Option.some.inj h
      simp (config := { maxSteps := 1000000 }) (disch := first | assumption | (simp; done) | omega | (simp; omega)) only [push_cast, reduceCtorEq, Nat.reduceEqDiff, Nat.reduceAdd, Nat.reduceSub, Nat.reduceMul, Nat.reduceLeDiff, Nat.reduceLT, Int.reduceEq, Int.reduceNe, Int.reduceLT, Int.reduceLE, Int.reduceGT, Int.reduceGE, Int.reduceBEq, Int.reduceBNe, ↓reduceIte, h21, h32]
      refine e_ret (.inr rfl) ?_
      simp (config := { maxSteps := 1000000 }) (disch := first | assumption | (simp; done) | omega | (simp; omega)) only [push_cast, reduceCtorEq, Nat.reduceEqDiff, Nat.reduceAdd, Nat.reduceSub, Nat.reduceMul, Nat.reduceLeDiff, Nat.reduceLT, Int.reduceEq, Int.reduceNe, Int.reduceLT, Int.reduceLE, Int.reduceGT, Int.reduceGE, Int.reduceBEq, Int.reduceBNe, ↓reduceIte, aret, aresults, aresult, h21, h32]
      refine ⟨_, rfl, ?_⟩
      first | (simp (config := { maxSteps := 1000000 }) (disch := first | assumption | (simp; done) | omega | (simp; omega)) only [push_cast, reduceCtorEq, Nat.reduceEqDiff, Nat.reduceAdd, Nat.reduceSub, Nat.reduceMul, Nat.reduceLeDiff, Nat.reduceLT, Int.reduceEq, Int.reduceNe, Int.reduceLT, Int.reduceLE, Int.reduceGT, Int.reduceGE, Int.reduceBEq, Int.reduceBNe, ↓reduceIte, h21, h32] <;> rfl) | rfl
    · try simp (disch := first | assumption | (simp; done) | omega | (simp; omega)) only [push_cast, reduceCtorEq, Nat.reduceEqDiff, Nat.reduceAdd, Nat.reduceSub, Nat.reduceMul, Nat.reduceLeDiff, Nat.reduceLT, Int.reduceEq, Int.reduceNe, Int.reduceLT, Int.reduceLE, Int.reduceGT, Int.reduceGE, Int.reduceBEq, Int.reduceBNe, ↓reduceIte] at h32
      rcases F_if h with ⟨h33, h⟩ | ⟨h33, h⟩
      · try simp (disch := first | assumption | (simp; done) | omega | (simp; omega)) only [push_cast, reduceCtorEq, Nat.reduceEqDiff, Nat.reduceAdd, Nat.reduceSub, Nat.reduceMul, Nat.reduceLeDiff, Nat.reduceLT, Int.reduceEq, Int.reduceNe, Int.reduceLT, Int.reduceLE, Int.reduceGT, Int.reduceGE, Int.reduceBEq, Int.reduceBNe, ↓reduceIte] at h33
        obtain rfl := Option.some.inj h
        simp (config := { maxSteps := 1000000 }) (disch := first | assumption | (simp; done) | omega | (simp; omega)) only [push_cast, reduceCtorEq, Nat.reduceEqDiff, Nat.reduceAdd, Nat.reduceSub, Nat.reduceMul, Nat.reduceLeDiff, Nat.reduceLT, Int.reduceEq, Int.reduceNe, Int.reduceLT, Int.reduceLE, Int.reduceGT, Int.reduceGE, Int.reduceBEq, Int.reduceBNe, ↓reduceIte, h21, h32, h33]
        refine e_ret (.inr rfl) ?_
        simp (config := { maxSteps := 1000000 }) (disch := first | assumption | (simp; done) | omega | (simp; omega)) only [push_cast, reduceCtorEq, Nat.reduceEqDiff, Nat.reduceAdd, Nat.reduceSub, Nat.reduceMul, Nat.reduceLeDiff, Nat.reduceLT, Int.reduceEq, Int.reduceNe, Int.reduceLT, Int.reduceLE, Int.reduceGT, Int.reduceGE, Int.reduceBEq, Int.reduceBNe, ↓reduceIte, aret, aresults, aresult, h21, h32, h33]
        refine ⟨_, rfl, ?_⟩
        first | (simp (config := { maxSteps := 1000000 }) (disch := first | assumption | (simp; done) | omega | (simp; omega)) only [push_cast, reduceCtorEq, Nat.reduceEqDiff, Nat.reduceAdd, Nat.reduceSub, Nat.reduceMul, Nat.reduceLeDiff, Nat.reduceLT, Int.reduceEq, Int.reduceNe, Int.reduceLT, Int.reduceLE, Int.reduceGT, Int.reduceGE, Int.reduceBEq, Int.reduceBNe, ↓reduceIte, h21, h32, h33] <;> rfl) | rfl
      · try simp (disch := first | assumption | (simp; done) | omega | (simp; omega)) only [push_cast, reduceCtorEq, Nat.reduceEqDiff, Nat.reduceAdd, Nat.reduceSub, Nat.reduceMul, Nat.reduceLeDiff, Nat.reduceLT, Int.reduceEq, Int.reduceNe, Int.reduceLT, Int.reduceLE, Int.reduceGT, Int.reduceGE, Int.reduceBEq, Int.reduceBNe, ↓reduceIte] at h33
        simp (config := { maxSteps := 1000000 }) (disch := first | assumption | (simp; done) | omega | (simp; omega)) only [push_cast, reduceCtorEq, Nat.reduceEqDiff, Nat.reduceAdd, Nat.reduceSub, Nat.reduceMul, Nat.reduceLeDiff, Nat.reduceLT, Int.reduceEq, Int.reduceNe, Int.reduceLT, Int.reduceLE, Int.reduceGT, Int.reduceGE, Int.reduceBEq, Int.reduceBNe, ↓reduceIte, h21, h32, h33]
        refine loop_of (I8_0 N p0 _) N [1, 3] [0] (by decide) ⟨0, h, ?_⟩ ?_
        · rw [wk_mk]
          simp (config := { maxSteps := 1000000 }) (disch := first | assumption | (simp; done) | omega | (simp; omega)) only [push_cast, reduceCtorEq, Nat.reduceEqDiff, Nat.reduceAdd, Nat.reduceSub, Nat.reduceMul, Nat.reduceLeDiff, Nat.reduceLT, Int.reduceEq, Int.reduceNe, Int.reduceLT, Int.reduceLE, Int.reduceGT, Int.reduceGE, Int.reduceBEq, Int.reduceBNe, ↓reduceIte, h21, h32, h33] <;> rfl
        · rintro n s ⟨a3, h, rfl⟩
          cases n with
          | zero => exact absurd h (by simp [L8_0])
          | succ m1 =>
            rw [L8_0] at h
            unfold f8b8
            rcases F_if h with ⟨h34, h⟩ | ⟨h34, h⟩
            · try simp (disch := first | assumption | (simp; done) | omega | (simp; omega)) only [push_cast, reduceCtorEq, Nat.reduceEqDiff, Nat.reduceAdd, Nat.reduceSub, Nat.reduceMul, Nat.reduceLeDiff, Nat.reduceLT, Int.reduceEq, Int.reduceNe, Int.reduceLT, Int.reduceLE, Int.reduceGT, Int.reduceGE, Int.reduceBEq, Int.reduceBNe, ↓reduceIte] at h34
              obtain ⟨x4, h35, h36, h⟩ := F_get h
              have h38 := get_lt h35 h36
              have h37 := map_get rS h36
              try simp (disch := first | assumption | (simp; done) | omega | (simp; omega)) only [push_cast, reduceCtorEq, Nat.reduceEqDiff, Nat.reduceAdd, Nat.reduceSub, Nat.reduceMul, Nat.reduceLeDiff, Nat.reduceLT, Int.reduceEq, Int.reduceNe, Int.reduceLT, Int.reduceLE, Int.reduceGT, Int.reduceGE, Int.reduceBEq, Int.reduceBNe, ↓reduceIte] at h37
              try simp (disch := first | assumption | (simp; done) | omega | (simp; omega)) only [push_cast, reduceCtorEq, Nat.reduceEqDiff, Nat.reduceAdd, Nat.reduceSub, Nat.reduceMul, Nat.reduceLeDiff, Nat.reduceLT, Int.reduceEq, Int.reduceNe, Int.reduceLT, Int.reduceLE, Int.reduceGT, Int.reduceGE, Int.reduceBEq, Int.reduceBNe, ↓reduceIte] at h38
              rcases F_if h with ⟨h39, h⟩ | ⟨h39, h⟩
              · try simp (disch := first | assumption | (simp; done) | omega | (simp; omega)) only [push_cast, reduceCtorEq, Nat.reduceEqDiff, Nat.reduceAdd, Nat.reduceSub, Nat.reduceMul, Nat.reduceLeDiff, Nat.reduceLT, Int.reduceEq, Int.reduceNe, Int.reduceLT, Int.reduceLE, Int.reduceGT, Int.reduceGE, Int.reduceBEq, Int.reduceBNe, ↓reduceIte] at h39
                obtain rfl := Option.some.inj h
                simp (config := { maxSteps := 1000000 }) (disch := first | assumption | (simp; done) | omega | (simp; omega)) only [push_cast, reduceCtorEq, Nat.reduceEqDiff, Nat.reduceAdd, Nat.reduceSub, Nat.reduceMul, Nat.reduceLeDiff, Nat.reduceLT, Int.reduceEq, Int.reduceNe, Int.reduceLT, Int.reduceLE, Int.reduceGT, Int.reduceGE, Int.reduceBEq, Int.reduceBNe, ↓reduceIte, h21, h32, h33, h34, h35, h37, h38, h39]
                refine e_ret (.inr rfl) ?_
                simp (config := { maxSteps := 1000000 }) (disch := first | assumption | (simp; done) | omega | (simp; omega)) only [push_cast, reduceCtorEq, Nat.reduceEqDiff, Nat.reduceAdd, Nat.reduceSub, Nat.reduceMul, Nat.reduceLeDiff, Nat.reduceLT, Int.reduceEq, Int.reduceNe, Int.reduceLT, Int.reduceLE, Int.reduceGT, Int.reduceGE, Int.reduceBEq, Int.reduceBNe, ↓reduceIte, aret, aresults, aresult, h21, h32, h33, h34, h35, h37, h38, h39]
                refine ⟨_, rfl, ?_⟩
                first | (simp (config := { maxSteps := 1000000 }) (disch := first | assumption | (simp; done) | omega | (simp; omega)) only [push_cast, reduceCtorEq, Nat.reduceEqDiff, Nat.reduceAdd, Nat.reduceSub, Nat.reduceMul, Nat.reduceLeDiff, Nat.reduceLT, Int.reduceEq, Int.reduceNe, Int.reduceLT, Int.reduceLE, Int.reduceGT, Int.reduceGE, Int.reduceBEq, Int.reduceBNe, ↓reduceIte, h21, h32, h33, h34, h35, h37, h38, h39] <;> rfl) | rfl
              · try simp (disch := first | assumption | (simp; done) | omega | (simp; omega)) only [push_cast, reduceCtorEq, Nat.reduceEqDiff, Nat.reduceAdd, Nat.reduceSub, Nat.reduceMul, Nat.reduceLeDiff, Nat.reduceLT, Int.reduceEq, Int.reduceNe, Int.reduceLT, Int.reduceLE, Int.reduceGT, Int.reduceGE, Int.reduceBEq, Int.reduceBNe, ↓reduceIte] at h39
                obtain ⟨h40, h⟩ := F_ck h
                try simp (disch := first | assumption | (simp; done) | omega | (simp; omega)) only [push_cast, reduceCtorEq, Nat.reduceEqDiff, Nat.reduceAdd, Nat.reduceSub, Nat.reduceMul, Nat.reduceLeDiff, Nat.reduceLT, Int.reduceEq, Int.reduceNe, Int.reduceLT, Int.reduceLE, Int.reduceGT, Int.reduceGE, Int.reduceBEq, Int.reduceBNe, ↓reduceIte] at h40
                simp (config := { maxSteps := 1000000 }) (disch := first | assumption | (simp; done) | omega | (simp; omega)) only [push_cast, reduceCtorEq, Nat.reduceEqDiff, Nat.reduceAdd, Nat.reduceSub, Nat.reduceMul, Nat.reduceLeDiff, Nat.reduceLT, Int.reduceEq, Int.reduceNe, Int.reduceLT, Int.reduceLE, Int.reduceGT, Int.reduceGE, Int.reduceBEq, Int.reduceBNe, ↓reduceIte, h21, h32, h33, h34, h35, h37, h38, h39, h40]
                refine lpK_of m1 [1, 3] [0] (by omega) (by decide) ⟨(a3 + 1), h, ?_⟩
                rw [wk_mk]
                simp (config := { maxSteps := 1000000 }) (disch := first | assumption | (simp; done) | omega | (simp; omega)) only [push_cast, reduceCtorEq, Nat.reduceEqDiff, Nat.reduceAdd, Nat.reduceSub, Nat.reduceMul, Nat.reduceLeDiff, Nat.reduceLT, Int.reduceEq, Int.reduceNe, Int.reduceLT, Int.reduceLE, Int.reduceGT, Int.reduceGE, Int.reduceBEq, Int.reduceBNe, ↓reduceIte, h21, h32, h33, h34, h35, h37, h38, h39, h40] <;> rfl
            · try simp (disch := first | assumption | (simp; done) | omega | (simp; omega)) only [push_cast, reduceCtorEq, Nat.reduceEqDiff, Nat.reduceAdd, Nat.reduceSub, Nat.reduceMul, Nat.reduceLeDiff, Nat.reduceLT, Int.reduceEq, Int.reduceNe, Int.reduceLT, Int.reduceLE, Int.reduceGT, Int.reduceGE, Int.reduceBEq, Int.reduceBNe, ↓reduceIte] at h34
              obtain rfl := Option.some.inj h
              simp (config := { maxSteps := 1000000 }) (disch := first | assumption | (simp; done) | omega | (simp; omega)) only [push_cast, reduceCtorEq, Nat.reduceEqDiff, Nat.reduceAdd, Nat.reduceSub, Nat.reduceMul, Nat.reduceLeDiff, Nat.reduceLT, Int.reduceEq, Int.reduceNe, Int.reduceLT, Int.reduceLE, Int.reduceGT, Int.reduceGE, Int.reduceBEq, Int.reduceBNe, ↓reduceIte, h21, h32, h33, h34]
              refine e_ret (.inr rfl) ?_
              simp (config := { maxSteps := 1000000 }) (disch := first | assumption | (simp; done) | omega | (simp; omega)) only [push_cast, reduceCtorEq, Nat.reduceEqDiff, Nat.reduceAdd, Nat.reduceSub, Nat.reduceMul, Nat.reduceLeDiff, Nat.reduceLT, Int.reduceEq, Int.reduceNe, Int.reduceLT, Int.reduceLE, Int.reduceGT, Int.reduceGE, Int.reduceBEq, Int.reduceBNe, ↓reduceIte, aret, aresults, aresult, h21, h32, h33, h34]
              refine ⟨_, rfl, ?_⟩
              first | (simp (config := { maxSteps := 1000000 }) (disch := first | assumption | (simp; done) | omega | (simp; omega)) only [push_cast, reduceCtorEq, Nat.reduceEqDiff, Nat.reduceAdd, Nat.reduceSub, Nat.reduceMul, Nat.reduceLeDiff, Nat.reduceLT, Int.reduceEq, Int.reduceNe, Int.reduceLT, Int.reduceLE, Int.reduceGT, Int.reduceGE, Int.reduceBEq, Int.reduceBNe, ↓reduceIte, h21, h32, h33, h34] <;> rfl) | rfl

/-! ## 31 rivermark.link.isBody -/
def f31g0 : List RO :=
  [⟨(.some 2), (.mv (.const (.bool .false))), .none⟩]
def f31g1 : List RO :=
  [⟨(.some 3), (.mv (.tmp 0)), .none⟩,
   ⟨(.some 4), (.len .true (.tmp 3)), .none⟩,
   ⟨(.some 5), (.bin .leq (.tmp 4) (.const (.int .i64 65536))), .none⟩,
   ⟨(.some 2), (.mv (.tmp 5)), .none⟩]
def f31c : RCode := (.seq (.reg .false f31g0) (.seq (.reg .false f31g1) .ret))
def f31r : List RRes := [(.tmp 2)]
attribute [push_cast] f31g0 f31g1
def F31 (N : Nat) (p0 : Str) : Option Bool := some (decide ((p0.length : Int) ≤ 65536))
theorem c31 (N : Nat) (p0 : Str) (r : Bool) (h : F31 N p0 = some r) : ACall Try.prog 31 [.D (.S p0)] [] (.D (.B r)) [] [] := by
  refine ACall.of_bodyW [] (fn := Try.f31) (rc := f31c) (rs := f31r) Try.func31 rfl rfl (by kernel_rfl) (by kernel_rfl) (by kernel_rfl) (by rw [Try.ntmps31]; simp) ?_
  unfold F31 at h
  unfold f31c f31r
  rw [entry_eq _ _]
  obtain rfl := Option.some.inj h
  simp (config := { maxSteps := 1000000 }) (disch := first | assumption | (simp; done) | omega | (simp; omega)) only [push_cast, reduceCtorEq, Nat.reduceEqDiff, Nat.reduceAdd, Nat.reduceSub, Nat.reduceMul, Nat.reduceLeDiff, Nat.reduceLT, Int.reduceEq, Int.reduceNe, Int.reduceLT, Int.reduceLE, Int.reduceGT, Int.reduceGE, Int.reduceBEq, Int.reduceBNe, ↓reduceIte]
  refine e_ret (.inr rfl) ?_
  simp (config := { maxSteps := 1000000 }) (disch := first | assumption | (simp; done) | omega | (simp; omega)) only [push_cast, reduceCtorEq, Nat.reduceEqDiff, Nat.reduceAdd, Nat.reduceSub, Nat.reduceMul, Nat.reduceLeDiff, Nat.reduceLT, Int.reduceEq, Int.reduceNe, Int.reduceLT, Int.reduceLE, Int.reduceGT, Int.reduceGE, Int.reduceBEq, Int.reduceBNe, ↓reduceIte, aret, aresults, aresult]
  refine ⟨_, rfl, ?_⟩
  first | (simp (config := { maxSteps := 1000000 }) (disch := first | assumption | (simp; done) | omega | (simp; omega)) only [push_cast, reduceCtorEq, Nat.reduceEqDiff, Nat.reduceAdd, Nat.reduceSub, Nat.reduceMul, Nat.reduceLeDiff, Nat.reduceLT, Int.reduceEq, Int.reduceNe, Int.reduceLT, Int.reduceLE, Int.reduceGT, Int.reduceGE, Int.reduceBEq, Int.reduceBNe, ↓reduceIte] <;> rfl) | rfl

/-! ## 38 rivermark.link.ValidOut$1 -/
def f38g0 : List RO :=
  [⟨(.some 2), (.mv (.const (.bool .false))), .none⟩]
def f38g1 : List RO :=
  [⟨(.some 3), (.mv (.tmp 0)), .none⟩,
   ⟨(.some 4), (.call (.func 31) [(.tmp 3)]), .none⟩,
   ⟨(.some 5), (.un .not (.tmp 4)), .none⟩,
   ⟨(.some 2), (.mv (.tmp 5)), .none⟩]
def f38c : RCode := (.seq (.reg .false f38g0) (.seq (.reg .false f38g1) .ret))
def f38r : List RRes := [(.tmp 2)]
attribute [push_cast] f38g0 f38g1
def F38 (N : Nat) (p0 : Str) : Option Bool := bd? (F31 N p0) fun v1 => some (!(v1))
theorem c38 (N : Nat) (p0 : Str) (r : Bool) (h : F38 N p0 = some r) : ACall Try.prog 38 [.D (.S p0)] [] (.D (.B r)) [] [] := by
  refine ACall.of_bodyW [] (fn := Try.f38) (rc := f38c) (rs := f38r) Try.func38 rfl rfl (by kernel_rfl) (by kernel_rfl) (by kernel_rfl) (by rw [Try.ntmps38]; simp) ?_
  unfold F38 at h
  unfold f38c f38r
  rw [entry_eq _ _]
  obtain ⟨v1, h42, h⟩ := F_bd h
  simp (config := { maxSteps := 1000000 }) (disch := first | assumption | (simp; done) | omega | (simp; omega)) only [push_cast, reduceCtorEq, Nat.reduceEqDiff, Nat.reduceAdd, Nat.reduceSub, Nat.reduceMul, Nat.reduceLeDiff, Nat.reduceLT, Int.reduceEq, Int.reduceNe, Int.reduceLT, Int.reduceLE, Int.reduceGT, Int.reduceGE, Int.reduceBEq, Int.reduceBNe, ↓reduceIte]
  refine call_flat (by rfl) (c31 N _ _ h42) ?_ rfl ?_
  · simp (config := { maxSteps := 1000000 }) (disch := first | assumption | (simp; done) | omega | (simp; omega)) only [push_cast, reduceCtorEq, Nat.reduceEqDiff, Nat.reduceAdd, Nat.reduceSub, Nat.reduceMul, Nat.reduceLeDiff, Nat.reduceLT, Int.reduceEq, Int.reduceNe, Int.reduceLT, Int.reduceLE, Int.reduceGT, Int.reduceGE, Int.reduceBEq, Int.reduceBNe, ↓reduceIte] <;> rfl
  obtain rfl := Option.some.inj h
  simp (config := { maxSteps := 1000000 }) (disch := first | assumption | (simp; done) | omega | (simp; omega)) only [push_cast, reduceCtorEq, Nat.reduceEqDiff, Nat.reduceAdd, Nat.reduceSub, Nat.reduceMul, Nat.reduceLeDiff, Nat.reduceLT, Int.reduceEq, Int.reduceNe, Int.reduceLT, Int.reduceLE, Int.reduceGT, Int.reduceGE, Int.reduceBEq, Int.reduceBNe, ↓reduceIte]
  refine e_ret (.inr rfl) ?_
  simp (config := { maxSteps := 1000000 }) (disch := first | assumption | (simp; done) | omega | (simp; omega)) only [push_cast, reduceCtorEq, Nat.reduceEqDiff, Nat.reduceAdd, Nat.reduceSub, Nat.reduceMul, Nat.reduceLeDiff, Nat.reduceLT, Int.reduceEq, Int.reduceNe, Int.reduceLT, Int.reduceLE, Int.reduceGT, Int.reduceGE, Int.reduceBEq, Int.reduceBNe, ↓reduceIte, aret, aresults, aresult]
  refine ⟨_, rfl, ?_⟩
  first | (simp (config := { maxSteps := 1000000 }) (disch := first | assumption | (simp; done) | omega | (simp; omega)) only [push_cast, reduceCtorEq, Nat.reduceEqDiff, Nat.reduceAdd, Nat.reduceSub, Nat.reduceMul, Nat.reduceLeDiff, Nat.reduceLT, Int.reduceEq, Int.reduceNe, Int.reduceLT, Int.reduceLE, Int.reduceGT, Int.reduceGE, Int.reduceBEq, Int.reduceBNe, ↓reduceIte] <;> rfl) | rfl

/-! ## 49 slices.IndexFunc[[]string,string] -/
def f49g0 : List RO :=
  [⟨(.some 4), (.mv (.const (.int .i64 0))), .none⟩]
def f49g1 : List RO :=
  [⟨(.some 6), (.mv (.tmp 0)), .none⟩,
   ⟨(.some 7), (.len .false (.tmp 6)), .none⟩,
   ⟨(.some 8), (.mv (.const (.int .i64 0))), .none⟩]
def f49g2 : List RO :=
  [⟨(.some 9), (.bin .lss (.tmp 8) (.tmp 7)), .none⟩]
def f49g3 : List RO :=
  [⟨(.some 10), (.mv (.tmp 8)), .none⟩,
   ⟨(.some 5), (.mv (.tmp 10)), .none⟩]
def f49g4 : List RO :=
  [⟨(.some 11), (.mv (.tmp 1)), .none⟩,
   ⟨(.some 12), (.mv (.tmp 0)), .none⟩,
   ⟨(.some 13), (.mv (.tmp 5)), .none⟩,
   ⟨(.some 14), (.iaddr 1 (.tmp 12) (.tmp 13)), .none⟩,
   ⟨(.some 15), (.load .none (.tmp 14)), .none⟩,
   ⟨(.some 16), (.call (.tmp 11) [(.tmp 15)]), .none⟩]
def f49g5 : List RO :=
  [⟨(.some 17), (.mv (.tmp 5)), .none⟩,
   ⟨(.some 4), (.mv (.tmp 17)), .none⟩]
def f49g6 : List RO :=
  [⟨(.some 18), (.bin .add (.tmp 8) (.const (.int .i64 1))), .none⟩,
   ⟨(.some 8), (.mv (.tmp 18)), .none⟩]
def f49b7 : RCode := (.seq (.reg .false f49g2) (.seq (.cond (.tmp 9) .skip (.exit 0)) (.seq (.block 1 (.seq (.reg .false f49g3) (.seq (.reg .false f49g4) (.cond (.tmp 16) (.seq (.reg .false f49g5) .ret) .skip)))) (.reg .false f49g6))))
def f49g8 : List RO :=
  [⟨(.some 4), (.mv (.const (.int .i64 (-1)))), .none⟩]
def f49c : RCode := (.seq (.reg .false f49g0) (.seq (.seq (.reg .false f49g1) (.block 0 (.loop f49b7))) (.seq (.reg .false f49g8) .ret)))
def f49r : List RRes := [(.tmp 4)]
attribute [push_cast] f49g0 f49g1 f49g2 f49g3 f49g4 f49g5 f49g6 f49g8
def L49_0 (N : Nat) (p0 : (List Str)) : Nat → Int → Option Int
  | 0, _ => none
  | m1+1, a1 => if? (decide (a1 < (p0.length : Int))) (get? p0 (a1) fun x2 => bd? (F38 N x2) fun v3 => if? (v3) (some (a1)) (ck .i64 (a1 + 1) (L49_0 N p0 m1 (a1 + 1)))) (some ((-1)))
def I49_0 (N : Nat) (p0 : (List Str)) (r : Int) (n : Nat) (s : AState) : Prop := ∃ (a1 : Int), L49_0 N p0 n a1 = some r ∧ s = ⟨envL [(0, .D (.L (p0.map rS))), (1, .clo 38 []), (7, .D (.I .i64 (p0.length : Int))), (8, .D (.I .i64 a1))], ownL [], ownL [], 0⟩
def F49 (N : Nat) (p0 : (List Str)) : Option Int := L49_0 N p0 N 0
theorem c49 (N : Nat) (p0 : (List Str)) (r : Int) (h : F49 N p0 = some r) : ACall Try.prog 49 [.D (.L (p0.map rS)), .clo 38 []] [] (.D (.I .i64 r)) [] [] := by
  refine ACall.of_bodyW [] (fn := Try.f49) (rc := f49c) (rs := f49r) Try.func49 rfl rfl (by kernel_rfl) (by kernel_rfl) (by kernel_rfl) (by rw [Try.ntmps49]; simp) ?_
  unfold F49 at h
  unfold f49c f49r
  rw [entry_eq _ _]
  simp (config := { maxSteps := 1000000 }) (disch := first | assumption | (simp; done) | omega | (simp; omega)) only [push_cast, reduceCtorEq, Nat.reduceEqDiff, Nat.reduceAdd, Nat.reduceSub, Nat.reduceMul, Nat.reduceLeDiff, Nat.reduceLT, Int.reduceEq, Int.reduceNe, Int.reduceLT, Int.reduceLE, Int.reduceGT, Int.reduceGE, Int.reduceBEq, Int.reduceBNe, ↓reduceIte]
  refine loop_of (I49_0 N p0 _) N [0, 1, 7, 8] [] (by decide) ⟨0, h, ?_⟩ ?_
  · rw [wk_mk]
    simp (config := { maxSteps := 1000000 }) (disch := first | assumption | (simp; done) | omega | (simp; omega)) only [push_cast, reduceCtorEq, Nat.reduceEqDiff, Nat.reduceAdd, Nat.reduceSub, Nat.reduceMul, Nat.reduceLeDiff, Nat.reduceLT, Int.reduceEq, Int.reduceNe, Int.reduceLT, Int.reduceLE, Int.reduceGT, Int.reduceGE, Int.reduceBEq, Int.reduceBNe, ↓reduceIte] <;> rfl
  · rintro n s ⟨a1, h, rfl⟩
    cases n with
    | zero => exact absurd h (by simp [L49_0])
    | succ m1 =>
      rw [L49_0] at h
      unfold f49b7
      rcases F_if h with ⟨h51, h⟩ | ⟨h51, h⟩
      · try simp (disch := first | assumption | (simp; done) | omega | (simp; omega)) only [push_cast, reduceCtorEq, Nat.reduceEqDiff, Nat.reduceAdd, Nat.reduceSub, Nat.reduceMul, Nat.reduceLeDiff, Nat.reduceLT, Int.reduceEq, Int.reduceNe, Int.reduceLT, Int.reduceLE, Int.reduceGT, Int.reduceGE, Int.reduceBEq, Int.reduceBNe, ↓reduceIte] at h51
        obtain ⟨x2, h52, h53, h⟩ := F_get h
        have h55 := get_lt h52 h53
        have h54 := map_get rS h53
        try simp (disch := first | assumption | (simp; done) | omega | (simp; omega)) only [push_cast, reduceCtorEq, Nat.reduceEqDiff, Nat.reduceAdd, Nat.reduceSub, Nat.reduceMul, Nat.reduceLeDiff, Nat.reduceLT, Int.reduceEq, Int.reduceNe, Int.reduceLT, Int.reduceLE, Int.reduceGT, Int.reduceGE, Int.reduceBEq, Int.reduceBNe, ↓reduceIte] at h54
        try simp (disch := first | assumption | (simp; done) | omega | (simp; omega)) only [push_cast, reduceCtorEq, Nat.reduceEqDiff, Nat.reduceAdd, Nat.reduceSub, Nat.reduceMul, Nat.reduceLeDiff, Nat.reduceLT, Int.reduceEq, Int.reduceNe, Int.reduceLT, Int.reduceLE, Int.reduceGT, Int.reduceGE, Int.reduceBEq, Int.reduceBNe, ↓reduceIte] at h55
        obtain ⟨v3, h56, h⟩ := F_bd h
        simp (config := { maxSteps := 1000000 }) (disch := first | assumption | (simp; done) | omega | (simp; omega)) only [push_cast, reduceCtorEq, Nat.reduceEqDiff, Nat.reduceAdd, Nat.reduceSub, Nat.reduceMul, Nat.reduceLeDiff, Nat.reduceLT, Int.reduceEq, Int.reduceNe, Int.reduceLT, Int.reduceLE, Int.reduceGT, Int.reduceGE, Int.reduceBEq, Int.reduceBNe, ↓reduceIte, h51, h52, h54, h55]
        refine call_flat (by rfl) (c38 N _ _ h56) ?_ rfl ?_
        · simp (config := { maxSteps := 1000000 }) (disch := first | assumption | (simp; done) | omega | (simp; omega)) only [push_cast, reduceCtorEq, Nat.reduceEqDiff, Nat.reduceAdd, Nat.reduceSub, Nat.reduceMul, Nat.reduceLeDiff, Nat.reduceLT, Int.reduceEq, Int.reduceNe, Int.reduceLT, Int.reduceLE, Int.reduceGT, Int.reduceGE, Int.reduceBEq, Int.reduceBNe, ↓reduceIte, h51, h52, h54, h55] <;> rfl
        rcases F_if h with ⟨h57, h⟩ | ⟨h57, h⟩
        · try simp (disch := first | assumption | (simp; done) | omega | (simp; omega)) only [push_cast, reduceCtorEq, Nat.reduceEqDiff, Nat.reduceAdd, Nat.reduceSub, Nat.reduceMul, Nat.reduceLeDiff, Nat.reduceLT, Int.reduceEq, Int.reduceNe, Int.reduceLT, Int.reduceLE, Int.reduceGT, Int.reduceGE, Int.reduceBEq, Int.reduceBNe, ↓reduceIte] at h57
          obtain rfl := Option.some.inj h
          simp (config := { maxSteps := 1000000 }) (disch := first | assumption | (simp; done) | omega | (simp; omega)) only [push_cast, reduceCtorEq, Nat.reduceEqDiff, Nat.reduceAdd, Nat.reduceSub, Nat.reduceMul, Nat.reduceLeDiff, Nat.reduceLT, Int.reduceEq, Int.reduceNe, Int.reduceLT, Int.reduceLE, Int.reduceGT, Int.reduceGE, Int.reduceBEq, Int.reduceBNe, ↓reduceIte, h51, h52, h54, h55, h57]
          refine e_ret (.inr rfl) ?_
          simp (config := { maxSteps := 1000000 }) (disch := first | assumption | (simp; done) | omega | (simp; omega)) only [push_cast, reduceCtorEq, Nat.reduceEqDiff, Nat.reduceAdd, Nat.reduceSub, Nat.reduceMul, Nat.reduceLeDiff, Nat.reduceLT, Int.reduceEq, Int.reduceNe, Int.reduceLT, Int.reduceLE, Int.reduceGT, Int.reduceGE, Int.reduceBEq, Int.reduceBNe, ↓reduceIte, aret, aresults, aresult, h51, h52, h54, h55, h57]
          refine ⟨_, rfl, ?_⟩
          first | (simp (config := { maxSteps := 1000000 }) (disch := first | assumption | (simp; done) | omega | (simp; omega)) only [push_cast, reduceCtorEq, Nat.reduceEqDiff, Nat.reduceAdd, Nat.reduceSub, Nat.reduceMul, Nat.reduceLeDiff, Nat.reduceLT, Int.reduceEq, Int.reduceNe, Int.reduceLT, Int.reduceLE, Int.reduceGT, Int.reduceGE, Int.reduceBEq, Int.reduceBNe, ↓reduceIte, h51, h52, h54, h55, h57] <;> rfl) | rfl
        · try simp (disch := first | assumption | (simp; done) | omega | (simp; omega)) only [push_cast, reduceCtorEq, Nat.reduceEqDiff, Nat.reduceAdd, Nat.reduceSub, Nat.reduceMul, Nat.reduceLeDiff, Nat.reduceLT, Int.reduceEq, Int.reduceNe, Int.reduceLT, Int.reduceLE, Int.reduceGT, Int.reduceGE, Int.reduceBEq, Int.reduceBNe, ↓reduceIte] at h57
          obtain ⟨h58, h⟩ := F_ck h
          try simp (disch := first | assumption | (simp; done) | omega | (simp; omega)) only [push_cast, reduceCtorEq, Nat.reduceEqDiff, Nat.reduceAdd, Nat.reduceSub, Nat.reduceMul, Nat.reduceLeDiff, Nat.reduceLT, Int.reduceEq, Int.reduceNe, Int.reduceLT, Int.reduceLE, Int.reduceGT, Int.reduceGE, Int.reduceBEq, Int.reduceBNe, ↓reduceIte] at h58
          simp (config := { maxSteps := 1000000 }) (disch := first | assumption | (simp; done) | omega | (simp; omega)) only [push_cast, reduceCtorEq, Nat.reduceEqDiff, Nat.reduceAdd, Nat.reduceSub, Nat.reduceMul, Nat.reduceLeDiff, Nat.reduceLT, Int.reduceEq, Int.reduceNe, Int.reduceLT, Int.reduceLE, Int.reduceGT, Int.reduceGE, Int.reduceBEq, Int.reduceBNe, ↓reduceIte, h51, h52, h54, h55, h57, h58]
          refine lpK_of m1 [0, 1, 7, 8] [] (by omega) (by decide) ⟨(a1 + 1), h, ?_⟩
          rw [wk_mk]
          simp (config := { maxSteps := 1000000 }) (disch := first | assumption | (simp; done) | omega | (simp; omega)) only [push_cast, reduceCtorEq, Nat.reduceEqDiff, Nat.reduceAdd, Nat.reduceSub, Nat.reduceMul, Nat.reduceLeDiff, Nat.reduceLT, Int.reduceEq, Int.reduceNe, Int.reduceLT, Int.reduceLE, Int.reduceGT, Int.reduceGE, Int.reduceBEq, Int.reduceBNe, ↓reduceIte, h51, h52, h54, h55, h57, h58] <;> rfl
      · try simp (disch := first | assumption | (simp; done) | omega | (simp; omega)) only [push_cast, reduceCtorEq, Nat.reduceEqDiff, Nat.reduceAdd, Nat.reduceSub, Nat.reduceMul, Nat.reduceLeDiff, Nat.reduceLT, Int.reduceEq, Int.reduceNe, Int.reduceLT, Int.reduceLE, Int.reduceGT, Int.reduceGE, Int.reduceBEq, Int.reduceBNe, ↓reduceIte] at h51
        obtain rfl := Option.some.inj h
        simp (config := { maxSteps := 1000000 }) (disch := first | assumption | (simp; done) | omega | (simp; omega)) only [push_cast, reduceCtorEq, Nat.reduceEqDiff, Nat.reduceAdd, Nat.reduceSub, Nat.reduceMul, Nat.reduceLeDiff, Nat.reduceLT, Int.reduceEq, Int.reduceNe, Int.reduceLT, Int.reduceLE, Int.reduceGT, Int.reduceGE, Int.reduceBEq, Int.reduceBNe, ↓reduceIte, h51]
        refine e_ret (.inr rfl) ?_
        simp (config := { maxSteps := 1000000 }) (disch := first | assumption | (simp; done) | omega | (simp; omega)) only [push_cast, reduceCtorEq, Nat.reduceEqDiff, Nat.reduceAdd, Nat.reduceSub, Nat.reduceMul, Nat.reduceLeDiff, Nat.reduceLT, Int.reduceEq, Int.reduceNe, Int.reduceLT, Int.reduceLE, Int.reduceGT, Int.reduceGE, Int.reduceBEq, Int.reduceBNe, ↓reduceIte, aret, aresults, aresult, h51]
        refine ⟨_, rfl, ?_⟩
        first | (simp (config := { maxSteps := 1000000 }) (disch := first | assumption | (simp; done) | omega | (simp; omega)) only [push_cast, reduceCtorEq, Nat.reduceEqDiff, Nat.reduceAdd, Nat.reduceSub, Nat.reduceMul, Nat.reduceLeDiff, Nat.reduceLT, Int.reduceEq, Int.reduceNe, Int.reduceLT, Int.reduceLE, Int.reduceGT, Int.reduceGE, Int.reduceBEq, Int.reduceBNe, ↓reduceIte, h51] <;> rfl) | rfl

/-! ## 37 slices.ContainsFunc[[]string,string] -/
def f37g0 : List RO :=
  [⟨(.some 4), (.mv (.const (.bool .false))), .none⟩]
def f37g1 : List RO :=
  [⟨(.some 5), (.mv (.tmp 0)), .none⟩,
   ⟨(.some 6), (.mv (.tmp 1)), .none⟩,
   ⟨(.some 7), (.call (.func 49) [(.tmp 5), (.tmp 6)]), .none⟩,
   ⟨(.some 8), (.bin .geq (.tmp 7) (.const (.int .i64 0))), .none⟩,
   ⟨(.some 4), (.mv (.tmp 8)), .none⟩]
def f37c : RCode := (.seq (.reg .false f37g0) (.seq (.reg .false f37g1) .ret))
def f37r : List RRes := [(.tmp 4)]
attribute [push_cast] f37g0 f37g1
def F37 (N : Nat) (p0 : (List Str)) : Option Bool := bd? (F49 N p0) fun v1 => some (decide (v1 ≥ 0))
theorem c37 (N : Nat) (p0 : (List Str)) (r : Bool) (h : F37 N p0 = some r) : ACall Try.prog 37 [.D (.L (p0.map rS)), .clo 38 []] [] (.D (.B r)) [] [] := by
  refine ACall.of_bodyW [] (fn := Try.f37) (rc := f37c) (rs := f37r) Try.func37 rfl rfl (by kernel_rfl) (by kernel_rfl) (by kernel_rfl) (by rw [Try.ntmps37]; simp) ?_
  unfold F37 at h
  unfold f37c f37r
  rw [entry_eq _ _]
  obtain ⟨v1, h60, h⟩ := F_bd h
  simp (config := { maxSteps := 1000000 }) (disch := first | assumption | (simp; done) | omega | (simp; omega)) only [push_cast, reduceCtorEq, Nat.reduceEqDiff, Nat.reduceAdd, Nat.reduceSub, Nat.reduceMul, Nat.reduceLeDiff, Nat.reduceLT, Int.reduceEq, Int.reduceNe, Int.reduceLT, Int.reduceLE, Int.reduceGT, Int.reduceGE, Int.reduceBEq, Int.reduceBNe, ↓reduceIte]
  refine call_flat (by rfl) (c49 N _ _ h60) ?_ rfl ?_
  · simp (config := { maxSteps := 1000000 }) (disch := first | assumption | (simp; done) | omega | (simp; omega)) only [push_cast, reduceCtorEq, Nat.reduceEqDiff, Nat.reduceAdd, Nat.reduceSub, Nat.reduceMul, Nat.reduceLeDiff, Nat.reduceLT, Int.reduceEq, Int.reduceNe, Int.reduceLT, Int.reduceLE, Int.reduceGT, Int.reduceGE, Int.reduceBEq, Int.reduceBNe, ↓reduceIte] <;> rfl
  obtain rfl := Option.some.inj h
  simp (config := { maxSteps := 1000000 }) (disch := first | assumption | (simp; done) | omega | (simp; omega)) only [push_cast, reduceCtorEq, Nat.reduceEqDiff, Nat.reduceAdd, Nat.reduceSub, Nat.reduceMul, Nat.reduceLeDiff, Nat.reduceLT, Int.reduceEq, Int.reduceNe, Int.reduceLT, Int.reduceLE, Int.reduceGT, Int.reduceGE, Int.reduceBEq, Int.reduceBNe, ↓reduceIte]
  refine e_ret (.inr rfl) ?_
  simp (config := { maxSteps := 1000000 }) (disch := first | assumption | (simp; done) | omega | (simp; omega)) only [push_cast, reduceCtorEq, Nat.reduceEqDiff, Nat.reduceAdd, Nat.reduceSub, Nat.reduceMul, Nat.reduceLeDiff, Nat.reduceLT, Int.reduceEq, Int.reduceNe, Int.reduceLT, Int.reduceLE, Int.reduceGT, Int.reduceGE, Int.reduceBEq, Int.reduceBNe, ↓reduceIte, aret, aresults, aresult]
  refine ⟨_, rfl, ?_⟩
  first | (simp (config := { maxSteps := 1000000 }) (disch := first | assumption | (simp; done) | omega | (simp; omega)) only [push_cast, reduceCtorEq, Nat.reduceEqDiff, Nat.reduceAdd, Nat.reduceSub, Nat.reduceMul, Nat.reduceLeDiff, Nat.reduceLT, Int.reduceEq, Int.reduceNe, Int.reduceLT, Int.reduceLE, Int.reduceGT, Int.reduceGE, Int.reduceBEq, Int.reduceBNe, ↓reduceIte] <;> rfl) | rfl

/-! ## 35 rivermark.link.within[int] -/
def f35g0 : List RO :=
  [⟨(.some 4), (.mv (.const (.bool .false))), .none⟩]
def f35g1 : List RO :=
  [⟨(.some 5), (.mv (.tmp 0)), .none⟩,
   ⟨(.some 6), (.bin .geq (.tmp 5) (.const (.int .i64 0))), .none⟩,
   ⟨(.some 7), (.mv (.tmp 6)), .none⟩,
   ⟨(.some 8), (.mv (.tmp 0)), (.some (7, .true))⟩,
   ⟨(.some 9), (.mv (.tmp 1)), (.some (7, .true))⟩,
   ⟨(.some 10), (.bin .leq (.tmp 8) (.tmp 9)), (.some (7, .true))⟩,
   ⟨(.some 11), (.pick (.tmp 7) (.tmp 10) (.const (.bool .false))), .none⟩,
   ⟨(.some 4), (.mv (.tmp 11)), .none⟩]
def f35c : RCode := (.seq (.reg .false f35g0) (.seq (.reg .false f35g1) .ret))
def f35r : List RRes := [(.tmp 4)]
attribute [push_cast] f35g0 f35g1
def F35 (N : Nat) (p0 : Int) (p1 : Int) : Option Bool := if? (decide (p0 ≥ 0)) (some (decide (p0 ≤ p1))) (some (false))
theorem c35 (N : Nat) (p0 : Int) (p1 : Int) (r : Bool) (h : F35 N p0 p1 = some r) : ACall Try.prog 35 [.D (.I .i64 p0), .D (.I .i64 p1)] [] (.D (.B r)) [] [] := by
  refine ACall.of_bodyW [] (fn := Try.f35) (rc := f35c) (rs := f35r) Try.func35 rfl rfl (by kernel_rfl) (by kernel_rfl) (by kernel_rfl) (by rw [Try.ntmps35]; simp) ?_
  unfold F35 at h
  unfold f35c f35r
  rw [entry_eq _ _]
  rcases F_if h with ⟨h62, h⟩ | ⟨h62, h⟩
  · try simp (disch := first | assumption | (simp; done) | omega | (simp; omega)) only [push_cast, reduceCtorEq, Nat.reduceEqDiff, Nat.reduceAdd, Nat.reduceSub, Nat.reduceMul, Nat.reduceLeDiff, Nat.reduceLT, Int.reduceEq, Int.reduceNe, Int.reduceLT, Int.reduceLE, Int.reduceGT, Int.reduceGE, Int.reduceBEq, Int.reduceBNe, ↓reduceIte] at h62
    obtain rfl := Option.some.inj h
    simp (config := { maxSteps := 1000000 }) (disch := first | assumption | (simp; done) | omega | (simp; omega)) only [push_cast, reduceCtorEq, Nat.reduceEqDiff, Nat.reduceAdd, Nat.reduceSub, Nat.reduceMul, Nat.reduceLeDiff, Nat.reduceLT, Int.reduceEq, Int.reduceNe, Int.reduceLT, Int.reduceLE, Int.reduceGT, Int.reduceGE, Int.reduceBEq, Int.reduceBNe, ↓reduceIte, h62]
    refine e_ret (.inr rfl) ?_
    simp (config := { maxSteps := 1000000 }) (disch := first | assumption | (simp; done) | omega | (simp; omega)) only [push_cast, reduceCtorEq, Nat.reduceEqDiff, Nat.reduceAdd, Nat.reduceSub, Nat.reduceMul, Nat.reduceLeDiff, Nat.reduceLT, Int.reduceEq, Int.reduceNe, Int.reduceLT, Int.reduceLE, Int.reduceGT, Int.reduceGE, Int.reduceBEq, Int.reduceBNe, ↓reduceIte, aret, aresults, aresult, h62]
    refine ⟨_, rfl, ?_⟩
    first | (simp (config := { maxSteps := 1000000 }) (disch := first | assumption | (simp; done) | omega | (simp; omega)) only [push_cast, reduceCtorEq, Nat.reduceEqDiff, Nat.reduceAdd, Nat.reduceSub, Nat.reduceMul, Nat.reduceLeDiff, Nat.reduceLT, Int.reduceEq, Int.reduceNe, Int.reduceLT, Int.reduceLE, Int.reduceGT, Int.reduceGE, Int.reduceBEq, Int.reduceBNe, ↓reduceIte, h62] <;> rfl) | rfl
  · try simp (disch := first | assumption | (simp; done) | omega | (simp; omega)) only [push_cast, reduceCtorEq, Nat.reduceEqDiff, Nat.reduceAdd, Nat.reduceSub, Nat.reduceMul, Nat.reduceLeDiff, Nat.reduceLT, Int.reduceEq, Int.reduceNe, Int.reduceLT, Int.reduceLE, Int.reduceGT, Int.reduceGE, Int.reduceBEq, Int.reduceBNe, ↓reduceIte] at h62
    obtain rfl := Option.some.inj h
    simp (config := { maxSteps := 1000000 }) (disch := first | assumption | (simp; done) | omega | (simp; omega)) only [push_cast, reduceCtorEq, Nat.reduceEqDiff, Nat.reduceAdd, Nat.reduceSub, Nat.reduceMul, Nat.reduceLeDiff, Nat.reduceLT, Int.reduceEq, Int.reduceNe, Int.reduceLT, Int.reduceLE, Int.reduceGT, Int.reduceGE, Int.reduceBEq, Int.reduceBNe, ↓reduceIte, h62]
    refine e_ret (.inr rfl) ?_
    simp (config := { maxSteps := 1000000 }) (disch := first | assumption | (simp; done) | omega | (simp; omega)) only [push_cast, reduceCtorEq, Nat.reduceEqDiff, Nat.reduceAdd, Nat.reduceSub, Nat.reduceMul, Nat.reduceLeDiff, Nat.reduceLT, Int.reduceEq, Int.reduceNe, Int.reduceLT, Int.reduceLE, Int.reduceGT, Int.reduceGE, Int.reduceBEq, Int.reduceBNe, ↓reduceIte, aret, aresults, aresult, h62]
    refine ⟨_, rfl, ?_⟩
    first | (simp (config := { maxSteps := 1000000 }) (disch := first | assumption | (simp; done) | omega | (simp; omega)) only [push_cast, reduceCtorEq, Nat.reduceEqDiff, Nat.reduceAdd, Nat.reduceSub, Nat.reduceMul, Nat.reduceLeDiff, Nat.reduceLT, Int.reduceEq, Int.reduceNe, Int.reduceLT, Int.reduceLE, Int.reduceGT, Int.reduceGE, Int.reduceBEq, Int.reduceBNe, ↓reduceIte, h62] <;> rfl) | rfl

/-! ## 32 rivermark.link.end -/
def f32g0 : List RO :=
  [⟨(.some 1), (.box (.tmp 0)), .none⟩,
   ⟨(.some 2), (.mv (.const (.int .i64 0))), .none⟩]
def f32g1 : List RO :=
  [⟨(.some 3), (.faddr 0 (.tmp 1)), .none⟩,
   ⟨(.some 4), (.load .none (.tmp 3)), .none⟩,
   ⟨(.some 5), (.faddr 3 (.tmp 1)), .none⟩,
   ⟨(.some 6), (.load .none (.tmp 5)), .none⟩,
   ⟨(.some 7), (.len .false (.tmp 6)), .none⟩,
   ⟨(.some 8), (.bin .add (.tmp 4) (.tmp 7)), .none⟩,
   ⟨(.some 2), (.mv (.tmp 8)), .none⟩]
def f32c : RCode := (.seq (.reg .false f32g0) (.seq (.reg .false f32g1) .ret))
def f32r : List RRes := [(.tmp 2)]
attribute [push_cast] f32g0 f32g1
def F32 (N : Nat) (p0 : Outbox) : Option Int := ck .i64 (p0.Base + (p0.Queue.length : Int)) (some ((p0.Base + (p0.Queue.length : Int))))
theorem c32 (N : Nat) (p0 : Outbox) (r : Int) (h : F32 N p0 = some r) : ACall Try.prog 32 [.agg [.D (.I .i64 p0.Base), .D (.I .i64 p0.Acked), .D (.S p0.Summary), .D (.L (p0.Queue.map rS))]] [] (.D (.I .i64 r)) [] [] := by
  refine ACall.of_bodyW [] (fn := Try.f32) (rc := f32c) (rs := f32r) Try.func32 rfl rfl (by kernel_rfl) (by kernel_rfl) (by kernel_rfl) (by rw [Try.ntmps32]; simp) ?_
  unfold F32 at h
  unfold f32c f32r
  rw [entry_eq _ _]
  obtain ⟨h64, h⟩ := F_ck h
  try simp (disch := first | assumption | (simp; done) | omega | (simp; omega)) only [push_cast, reduceCtorEq, Nat.reduceEqDiff, Nat.reduceAdd, Nat.reduceSub, Nat.reduceMul, Nat.reduceLeDiff, Nat.reduceLT, Int.reduceEq, Int.reduceNe, Int.reduceLT, Int.reduceLE, Int.reduceGT, Int.reduceGE, Int.reduceBEq, Int.reduceBNe, ↓reduceIte] at h64
  obtain rfl := Option.some.inj h
  simp (config := { maxSteps := 1000000 }) (disch := first | assumption | (simp; done) | omega | (simp; omega)) only [push_cast, reduceCtorEq, Nat.reduceEqDiff, Nat.reduceAdd, Nat.reduceSub, Nat.reduceMul, Nat.reduceLeDiff, Nat.reduceLT, Int.reduceEq, Int.reduceNe, Int.reduceLT, Int.reduceLE, Int.reduceGT, Int.reduceGE, Int.reduceBEq, Int.reduceBNe, ↓reduceIte, h64]
  refine e_ret (.inr rfl) ?_
  simp (config := { maxSteps := 1000000 }) (disch := first | assumption | (simp; done) | omega | (simp; omega)) only [push_cast, reduceCtorEq, Nat.reduceEqDiff, Nat.reduceAdd, Nat.reduceSub, Nat.reduceMul, Nat.reduceLeDiff, Nat.reduceLT, Int.reduceEq, Int.reduceNe, Int.reduceLT, Int.reduceLE, Int.reduceGT, Int.reduceGE, Int.reduceBEq, Int.reduceBNe, ↓reduceIte, aret, aresults, aresult, h64]
  refine ⟨_, rfl, ?_⟩
  first | (simp (config := { maxSteps := 1000000 }) (disch := first | assumption | (simp; done) | omega | (simp; omega)) only [push_cast, reduceCtorEq, Nat.reduceEqDiff, Nat.reduceAdd, Nat.reduceSub, Nat.reduceMul, Nat.reduceLeDiff, Nat.reduceLT, Int.reduceEq, Int.reduceNe, Int.reduceLT, Int.reduceLE, Int.reduceGT, Int.reduceGE, Int.reduceBEq, Int.reduceBNe, ↓reduceIte, h64] <;> rfl) | rfl

/-! ## 18 rivermark.link.ValidOut -/
def f18g0 : List RO :=
  [⟨(.some 1), (.box (.tmp 0)), .none⟩,
   ⟨(.some 2), (.mv (.const (.bool .false))), .none⟩]
def f18g1 : List RO :=
  [⟨(.some 4), (.faddr 3 (.tmp 1)), .none⟩,
   ⟨(.some 5), (.load .none (.tmp 4)), .none⟩,
   ⟨(.some 6), (.call (.func 37) [(.tmp 5), (.func 38)]), .none⟩,
   ⟨(.some 3), (.mv (.tmp 6)), .none⟩]
def f18g2 : List RO :=
  [⟨(.some 7), (.faddr 0 (.tmp 1)), .none⟩,
   ⟨(.some 8), (.load .none (.tmp 7)), .none⟩,
   ⟨(.some 9), (.call (.func 35) [(.tmp 8), (.const (.int .i64 1099511627776))]), .none⟩,
   ⟨(.some 10), (.mv (.tmp 9)), .none⟩,
   ⟨(.some 11), (.faddr 1 (.tmp 1)), (.some (10, .true))⟩,
   ⟨(.some 12), (.load .none (.tmp 11)), (.some (10, .true))⟩,
   ⟨(.some 13), (.load (.some 4) (.tmp 1)), (.some (10, .true))⟩,
   ⟨(.some 14), (.call (.func 32) [(.tmp 13)]), (.some (10, .true))⟩,
   ⟨(.some 15), (.mm .false (.const (.int .i64 1099511627776)) (.tmp 14)), (.some (10, .true))⟩,
   ⟨(.some 16), (.call (.func 35) [(.tmp 12), (.tmp 15)]), (.some (10, .true))⟩,
   ⟨(.some 17), (.pick (.tmp 10) (.tmp 16) (.const (.bool .false))), .none⟩,
   ⟨(.some 18), (.mv (.tmp 17)), .none⟩,
   ⟨(.some 19), (.faddr 3 (.tmp 1)), (.some (18, .true))⟩,
   ⟨(.some 20), (.load .none (.tmp 19)), (.some (18, .true))⟩,
   ⟨(.some 21), (.len .false (.tmp 20)), (.some (18, .true))⟩,
   ⟨(.some 22), (.bin .leq (.tmp 21) (.const (.int .i64 1000))), (.some (18, .true))⟩,
   ⟨(.some 23), (.pick (.tmp 18) (.tmp 22) (.const (.bool .false))), .none⟩,
   ⟨(.some 24), (.mv (.tmp 23)), .none⟩,
   ⟨(.some 25), (.faddr 2 (.tmp 1)), (.some (24, .true))⟩,
   ⟨(.some 26), (.load .none (.tmp 25)), (.some (24, .true))⟩,
   ⟨(.some 27), (.call (.func 31) [(.tmp 26)]), (.some (24, .true))⟩,
   ⟨(.some 28), (.pick (.tmp 24) (.tmp 27) (.const (.bool .false))), .none⟩,
   ⟨(.some 29), (.mv (.tmp 28)), .none⟩,
   ⟨(.some 30), (.mv (.tmp 3)), (.some (29, .true))⟩,
   ⟨(.some 31), (.un .not (.tmp 30)), (.some (29, .true))⟩,
   ⟨(.some 32), (.pick (.tmp 29) (.tmp 31) (.const (.bool .false))), .none⟩,
   ⟨(.some 2), (.mv (.tmp 32)), .none⟩]
def f18c : RCode := (.seq (.reg .false f18g0) (.seq (.reg .false f18g1) (.seq (.reg .true f18g2) .ret)))
def f18r : List RRes := [(.tmp 2)]
attribute [push_cast] f18g0 f18g1 f18g2
def F18 (N : Nat) (p0 : Outbox) : Option Bool := bd? (F37 N p0.Queue) fun v1 => bd? (F35 N p0.Base 1099511627776) fun v2 => if? (v2) (bd? (F32 N p0) fun v3 => bd? (F35 N p0.Acked (min 1099511627776 v3)) fun v4 => if? (v4) (if? (decide ((p0.Queue.length : Int) ≤ 1000)) (bd? (F31 N p0.Summary) fun v5 => if? (v5) (some (!(v1))) (some (false))) (some (false))) (some (false))) (some (false))
theorem c18 (N : Nat) (p0 : Outbox) (r : Bool) (h : F18 N p0 = some r) : ACall Try.prog 18 [.agg [.D (.I .i64 p0.Base), .D (.I .i64 p0.Acked), .D (.S p0.Summary), .D (.L (p0.Queue.map rS))]] [] (.D (.B r)) [] [] := by
  refine ACall.of_bodyW [] (fn := Try.f18) (rc := f18c) (rs := f18r) Try.func18 rfl rfl (by kernel_rfl) (by kernel_rfl) (by kernel_rfl) (by rw [Try.ntmps18]; simp) ?_
  unfold F18 at h
  unfold f18c f18r
  rw [entry_eq _ _]
  obtain ⟨v1, h74, h⟩ := F_bd h
  simp (config := { maxSteps := 1000000 }) (disch := first | assumption | (simp; done) | omega | (simp; omega)) only [push_cast, reduceCtorEq, Nat.reduceEqDiff, Nat.reduceAdd, Nat.reduceSub, Nat.reduceMul, Nat.reduceLeDiff, Nat.reduceLT, Int.reduceEq, Int.reduceNe, Int.reduceLT, Int.reduceLE, Int.reduceGT, Int.reduceGE, Int.reduceBEq, Int.reduceBNe, ↓reduceIte]
  refine call_flat (by rfl) (c37 N _ _ h74) ?_ rfl ?_
  · simp (config := { maxSteps := 1000000 }) (disch := first | assumption | (simp; done) | omega | (simp; omega)) only [push_cast, reduceCtorEq, Nat.reduceEqDiff, Nat.reduceAdd, Nat.reduceSub, Nat.reduceMul, Nat.reduceLeDiff, Nat.reduceLT, Int.reduceEq, Int.reduceNe, Int.reduceLT, Int.reduceLE, Int.reduceGT, Int.reduceGE, Int.reduceBEq, Int.reduceBNe, ↓reduceIte] <;> rfl
  obtain ⟨v2, h75, h⟩ := F_bd h
  simp (config := { maxSteps := 1000000 }) (disch := first | assumption | (simp; done) | omega | (simp; omega)) only [push_cast, reduceCtorEq, Nat.reduceEqDiff, Nat.reduceAdd, Nat.reduceSub, Nat.reduceMul, Nat.reduceLeDiff, Nat.reduceLT, Int.reduceEq, Int.reduceNe, Int.reduceLT, Int.reduceLE, Int.reduceGT, Int.reduceGE, Int.reduceBEq, Int.reduceBNe, ↓reduceIte]
  refine call_flat (by rfl) (c35 N _ _ _ h75) ?_ rfl ?_
  · simp (config := { maxSteps := 1000000 }) (disch := first | assumption | (simp; done) | omega | (simp; omega)) only [push_cast, reduceCtorEq, Nat.reduceEqDiff, Nat.reduceAdd, Nat.reduceSub, Nat.reduceMul, Nat.reduceLeDiff, Nat.reduceLT, Int.reduceEq, Int.reduceNe, Int.reduceLT, Int.reduceLE, Int.reduceGT, Int.reduceGE, Int.reduceBEq, Int.reduceBNe, ↓reduceIte] <;> rfl
  rcases F_if h with ⟨h76, h⟩ | ⟨h76, h⟩
  · try simp (disch := first | assumption | (simp; done) | omega | (simp; omega)) only [push_cast, reduceCtorEq, Nat.reduceEqDiff, Nat.reduceAdd, Nat.reduceSub, Nat.reduceMul, Nat.reduceLeDiff, Nat.reduceLT, Int.reduceEq, Int.reduceNe, Int.reduceLT, Int.reduceLE, Int.reduceGT, Int.reduceGE, Int.reduceBEq, Int.reduceBNe, ↓reduceIte] at h76
    obtain ⟨v3, h77, h⟩ := F_bd h
    simp (config := { maxSteps := 1000000 }) (disch := first | assumption | (simp; done) | omega | (simp; omega)) only [push_cast, reduceCtorEq, Nat.reduceEqDiff, Nat.reduceAdd, Nat.reduceSub, Nat.reduceMul, Nat.reduceLeDiff, Nat.reduceLT, Int.reduceEq, Int.reduceNe, Int.reduceLT, Int.reduceLE, Int.reduceGT, Int.reduceGE, Int.reduceBEq, Int.reduceBNe, ↓reduceIte, h76]
    refine call_flat (by rfl) (c32 N _ _ h77) ?_ rfl ?_
    · simp (config := { maxSteps := 1000000 }) (disch := first | assumption | (simp; done) | omega | (simp; omega)) only [push_cast, reduceCtorEq, Nat.reduceEqDiff, Nat.reduceAdd, Nat.reduceSub, Nat.reduceMul, Nat.reduceLeDiff, Nat.reduceLT, Int.reduceEq, Int.reduceNe, Int.reduceLT, Int.reduceLE, Int.reduceGT, Int.reduceGE, Int.reduceBEq, Int.reduceBNe, ↓reduceIte, h76] <;> rfl
    obtain ⟨v4, h78, h⟩ := F_bd h
    simp (config := { maxSteps := 1000000 }) (disch := first | assumption | (simp; done) | omega | (simp; omega)) only [push_cast, reduceCtorEq, Nat.reduceEqDiff, Nat.reduceAdd, Nat.reduceSub, Nat.reduceMul, Nat.reduceLeDiff, Nat.reduceLT, Int.reduceEq, Int.reduceNe, Int.reduceLT, Int.reduceLE, Int.reduceGT, Int.reduceGE, Int.reduceBEq, Int.reduceBNe, ↓reduceIte, h76]
    refine call_flat (by rfl) (c35 N _ _ _ h78) ?_ rfl ?_
    · simp (config := { maxSteps := 1000000 }) (disch := first | assumption | (simp; done) | omega | (simp; omega)) only [push_cast, reduceCtorEq, Nat.reduceEqDiff, Nat.reduceAdd, Nat.reduceSub, Nat.reduceMul, Nat.reduceLeDiff, Nat.reduceLT, Int.reduceEq, Int.reduceNe, Int.reduceLT, Int.reduceLE, Int.reduceGT, Int.reduceGE, Int.reduceBEq, Int.reduceBNe, ↓reduceIte, h76] <;> rfl
    rcases F_if h with ⟨h79, h⟩ | ⟨h79, h⟩
    · try simp (disch := first | assumption | (simp; done) | omega | (simp; omega)) only [push_cast, reduceCtorEq, Nat.reduceEqDiff, Nat.reduceAdd, Nat.reduceSub, Nat.reduceMul, Nat.reduceLeDiff, Nat.reduceLT, Int.reduceEq, Int.reduceNe, Int.reduceLT, Int.reduceLE, Int.reduceGT, Int.reduceGE, Int.reduceBEq, Int.reduceBNe, ↓reduceIte] at h79
      rcases F_if h with ⟨h80, h⟩ | ⟨h80, h⟩
      · try simp (disch := first | assumption | (simp; done) | omega | (simp; omega)) only [push_cast, reduceCtorEq, Nat.reduceEqDiff, Nat.reduceAdd, Nat.reduceSub, Nat.reduceMul, Nat.reduceLeDiff, Nat.reduceLT, Int.reduceEq, Int.reduceNe, Int.reduceLT, Int.reduceLE, Int.reduceGT, Int.reduceGE, Int.reduceBEq, Int.reduceBNe, ↓reduceIte] at h80
        obtain ⟨v5, h81, h⟩ := F_bd h
        simp (config := { maxSteps := 1000000 }) (disch := first | assumption | (simp; done) | omega | (simp; omega)) only [push_cast, reduceCtorEq, Nat.reduceEqDiff, Nat.reduceAdd, Nat.reduceSub, Nat.reduceMul, Nat.reduceLeDiff, Nat.reduceLT, Int.reduceEq, Int.reduceNe, Int.reduceLT, Int.reduceLE, Int.reduceGT, Int.reduceGE, Int.reduceBEq, Int.reduceBNe, ↓reduceIte, h76, h79, h80]
        refine call_flat (by rfl) (c31 N _ _ h81) ?_ rfl ?_
        · simp (config := { maxSteps := 1000000 }) (disch := first | assumption | (simp; done) | omega | (simp; omega)) only [push_cast, reduceCtorEq, Nat.reduceEqDiff, Nat.reduceAdd, Nat.reduceSub, Nat.reduceMul, Nat.reduceLeDiff, Nat.reduceLT, Int.reduceEq, Int.reduceNe, Int.reduceLT, Int.reduceLE, Int.reduceGT, Int.reduceGE, Int.reduceBEq, Int.reduceBNe, ↓reduceIte, h76, h79, h80] <;> rfl
        rcases F_if h with ⟨h82, h⟩ | ⟨h82, h⟩
        · try simp (disch := first | assumption | (simp; done) | omega | (simp; omega)) only [push_cast, reduceCtorEq, Nat.reduceEqDiff, Nat.reduceAdd, Nat.reduceSub, Nat.reduceMul, Nat.reduceLeDiff, Nat.reduceLT, Int.reduceEq, Int.reduceNe, Int.reduceLT, Int.reduceLE, Int.reduceGT, Int.reduceGE, Int.reduceBEq, Int.reduceBNe, ↓reduceIte] at h82
          obtain rfl := Option.some.inj h
          simp (config := { maxSteps := 1000000 }) (disch := first | assumption | (simp; done) | omega | (simp; omega)) only [push_cast, reduceCtorEq, Nat.reduceEqDiff, Nat.reduceAdd, Nat.reduceSub, Nat.reduceMul, Nat.reduceLeDiff, Nat.reduceLT, Int.reduceEq, Int.reduceNe, Int.reduceLT, Int.reduceLE, Int.reduceGT, Int.reduceGE, Int.reduceBEq, Int.reduceBNe, ↓reduceIte, h76, h79, h80, h82]
          refine e_ret (.inr rfl) ?_
          simp (config := { maxSteps := 1000000 }) (disch := first | assumption | (simp; done) | omega | (simp; omega)) only [push_cast, reduceCtorEq, Nat.reduceEqDiff, Nat.reduceAdd, Nat.reduceSub, Nat.reduceMul, Nat.reduceLeDiff, Nat.reduceLT, Int.reduceEq, Int.reduceNe, Int.reduceLT, Int.reduceLE, Int.reduceGT, Int.reduceGE, Int.reduceBEq, Int.reduceBNe, ↓reduceIte, aret, aresults, aresult, h76, h79, h80, h82]
          refine ⟨_, rfl, ?_⟩
          first | (simp (config := { maxSteps := 1000000 }) (disch := first | assumption | (simp; done) | omega | (simp; omega)) only [push_cast, reduceCtorEq, Nat.reduceEqDiff, Nat.reduceAdd, Nat.reduceSub, Nat.reduceMul, Nat.reduceLeDiff, Nat.reduceLT, Int.reduceEq, Int.reduceNe, Int.reduceLT, Int.reduceLE, Int.reduceGT, Int.reduceGE, Int.reduceBEq, Int.reduceBNe, ↓reduceIte, h76, h79, h80, h82] <;> rfl) | rfl
        · try simp (disch := first | assumption | (simp; done) | omega | (simp; omega)) only [push_cast, reduceCtorEq, Nat.reduceEqDiff, Nat.reduceAdd, Nat.reduceSub, Nat.reduceMul, Nat.reduceLeDiff, Nat.reduceLT, Int.reduceEq, Int.reduceNe, Int.reduceLT, Int.reduceLE, Int.reduceGT, Int.reduceGE, Int.reduceBEq, Int.reduceBNe, ↓reduceIte] at h82
          obtain rfl := Option.some.inj h
          simp (config := { maxSteps := 1000000 }) (disch := first | assumption | (simp; done) | omega | (simp; omega)) only [push_cast, reduceCtorEq, Nat.reduceEqDiff, Nat.reduceAdd, Nat.reduceSub, Nat.reduceMul, Nat.reduceLeDiff, Nat.reduceLT, Int.reduceEq, Int.reduceNe, Int.reduceLT, Int.reduceLE, Int.reduceGT, Int.reduceGE, Int.reduceBEq, Int.reduceBNe, ↓reduceIte, h76, h79, h80, h82]
          refine e_ret (.inr rfl) ?_
          simp (config := { maxSteps := 1000000 }) (disch := first | assumption | (simp; done) | omega | (simp; omega)) only [push_cast, reduceCtorEq, Nat.reduceEqDiff, Nat.reduceAdd, Nat.reduceSub, Nat.reduceMul, Nat.reduceLeDiff, Nat.reduceLT, Int.reduceEq, Int.reduceNe, Int.reduceLT, Int.reduceLE, Int.reduceGT, Int.reduceGE, Int.reduceBEq, Int.reduceBNe, ↓reduceIte, aret, aresults, aresult, h76, h79, h80, h82]
          refine ⟨_, rfl, ?_⟩
          first | (simp (config := { maxSteps := 1000000 }) (disch := first | assumption | (simp; done) | omega | (simp; omega)) only [push_cast, reduceCtorEq, Nat.reduceEqDiff, Nat.reduceAdd, Nat.reduceSub, Nat.reduceMul, Nat.reduceLeDiff, Nat.reduceLT, Int.reduceEq, Int.reduceNe, Int.reduceLT, Int.reduceLE, Int.reduceGT, Int.reduceGE, Int.reduceBEq, Int.reduceBNe, ↓reduceIte, h76, h79, h80, h82] <;> rfl) | rfl
      · try simp (disch := first | assumption | (simp; done) | omega | (simp; omega)) only [push_cast, reduceCtorEq, Nat.reduceEqDiff, Nat.reduceAdd, Nat.reduceSub, Nat.reduceMul, Nat.reduceLeDiff, Nat.reduceLT, Int.reduceEq, Int.reduceNe, Int.reduceLT, Int.reduceLE, Int.reduceGT, Int.reduceGE, Int.reduceBEq, Int.reduceBNe, ↓reduceIte] at h80
        obtain rfl := Option.some.inj h
        simp (config := { maxSteps := 1000000 }) (disch := first | assumption | (simp; done) | omega | (simp; omega)) only [push_cast, reduceCtorEq, Nat.reduceEqDiff, Nat.reduceAdd, Nat.reduceSub, Nat.reduceMul, Nat.reduceLeDiff, Nat.reduceLT, Int.reduceEq, Int.reduceNe, Int.reduceLT, Int.reduceLE, Int.reduceGT, Int.reduceGE, Int.reduceBEq, Int.reduceBNe, ↓reduceIte, h76, h79, h80]
        refine e_ret (.inr rfl) ?_
        simp (config := { maxSteps := 1000000 }) (disch := first | assumption | (simp; done) | omega | (simp; omega)) only [push_cast, reduceCtorEq, Nat.reduceEqDiff, Nat.reduceAdd, Nat.reduceSub, Nat.reduceMul, Nat.reduceLeDiff, Nat.reduceLT, Int.reduceEq, Int.reduceNe, Int.reduceLT, Int.reduceLE, Int.reduceGT, Int.reduceGE, Int.reduceBEq, Int.reduceBNe, ↓reduceIte, aret, aresults, aresult, h76, h79, h80]
        refine ⟨_, rfl, ?_⟩
        first | (simp (config := { maxSteps := 1000000 }) (disch := first | assumption | (simp; done) | omega | (simp; omega)) only [push_cast, reduceCtorEq, Nat.reduceEqDiff, Nat.reduceAdd, Nat.reduceSub, Nat.reduceMul, Nat.reduceLeDiff, Nat.reduceLT, Int.reduceEq, Int.reduceNe, Int.reduceLT, Int.reduceLE, Int.reduceGT, Int.reduceGE, Int.reduceBEq, Int.reduceBNe, ↓reduceIte, h76, h79, h80] <;> rfl) | rfl
    · try simp (disch := first | assumption | (simp; done) | omega | (simp; omega)) only [push_cast, reduceCtorEq, Nat.reduceEqDiff, Nat.reduceAdd, Nat.reduceSub, Nat.reduceMul, Nat.reduceLeDiff, Nat.reduceLT, Int.reduceEq, Int.reduceNe, Int.reduceLT, Int.reduceLE, Int.reduceGT, Int.reduceGE, Int.reduceBEq, Int.reduceBNe, ↓reduceIte] at h79
      obtain rfl := Option.some.inj h
      simp (config := { maxSteps := 1000000 }) (disch := first | assumption | (simp; done) | omega | (simp; omega)) only [push_cast, reduceCtorEq, Nat.reduceEqDiff, Nat.reduceAdd, Nat.reduceSub, Nat.reduceMul, Nat.reduceLeDiff, Nat.reduceLT, Int.reduceEq, Int.reduceNe, Int.reduceLT, Int.reduceLE, Int.reduceGT, Int.reduceGE, Int.reduceBEq, Int.reduceBNe, ↓reduceIte, h76, h79]
      refine e_ret (.inr rfl) ?_
      simp (config := { maxSteps := 1000000 }) (disch := first | assumption | (simp; done) | omega | (simp; omega)) only [push_cast, reduceCtorEq, Nat.reduceEqDiff, Nat.reduceAdd, Nat.reduceSub, Nat.reduceMul, Nat.reduceLeDiff, Nat.reduceLT, Int.reduceEq, Int.reduceNe, Int.reduceLT, Int.reduceLE, Int.reduceGT, Int.reduceGE, Int.reduceBEq, Int.reduceBNe, ↓reduceIte, aret, aresults, aresult, h76, h79]
      refine ⟨_, rfl, ?_⟩
      first | (simp (config := { maxSteps := 1000000 }) (disch := first | assumption | (simp; done) | omega | (simp; omega)) only [push_cast, reduceCtorEq, Nat.reduceEqDiff, Nat.reduceAdd, Nat.reduceSub, Nat.reduceMul, Nat.reduceLeDiff, Nat.reduceLT, Int.reduceEq, Int.reduceNe, Int.reduceLT, Int.reduceLE, Int.reduceGT, Int.reduceGE, Int.reduceBEq, Int.reduceBNe, ↓reduceIte, h76, h79] <;> rfl) | rfl
  · try simp (disch := first | assumption | (simp; done) | omega | (simp; omega)) only [push_cast, reduceCtorEq, Nat.reduceEqDiff, Nat.reduceAdd, Nat.reduceSub, Nat.reduceMul, Nat.reduceLeDiff, Nat.reduceLT, Int.reduceEq, Int.reduceNe, Int.reduceLT, Int.reduceLE, Int.reduceGT, Int.reduceGE, Int.reduceBEq, Int.reduceBNe, ↓reduceIte] at h76
    obtain rfl := Option.some.inj h
    simp (config := { maxSteps := 1000000 }) (disch := first | assumption | (simp; done) | omega | (simp; omega)) only [push_cast, reduceCtorEq, Nat.reduceEqDiff, Nat.reduceAdd, Nat.reduceSub, Nat.reduceMul, Nat.reduceLeDiff, Nat.reduceLT, Int.reduceEq, Int.reduceNe, Int.reduceLT, Int.reduceLE, Int.reduceGT, Int.reduceGE, Int.reduceBEq, Int.reduceBNe, ↓reduceIte, h76]
    refine e_ret (.inr rfl) ?_
    simp (config := { maxSteps := 1000000 }) (disch := first | assumption | (simp; done) | omega | (simp; omega)) only [push_cast, reduceCtorEq, Nat.reduceEqDiff, Nat.reduceAdd, Nat.reduceSub, Nat.reduceMul, Nat.reduceLeDiff, Nat.reduceLT, Int.reduceEq, Int.reduceNe, Int.reduceLT, Int.reduceLE, Int.reduceGT, Int.reduceGE, Int.reduceBEq, Int.reduceBNe, ↓reduceIte, aret, aresults, aresult, h76]
    refine ⟨_, rfl, ?_⟩
    first | (simp (config := { maxSteps := 1000000 }) (disch := first | assumption | (simp; done) | omega | (simp; omega)) only [push_cast, reduceCtorEq, Nat.reduceEqDiff, Nat.reduceAdd, Nat.reduceSub, Nat.reduceMul, Nat.reduceLeDiff, Nat.reduceLT, Int.reduceEq, Int.reduceNe, Int.reduceLT, Int.reduceLE, Int.reduceGT, Int.reduceGE, Int.reduceBEq, Int.reduceBNe, ↓reduceIte, h76] <;> rfl) | rfl

/-! ## 33 slices.Clone[[]string,string] -/
def f33g0 : List RO :=
  [⟨(.some 2), (.mv (.const (.slice .none 0 0))), .none⟩]
def f33g1 : List RO :=
  [⟨(.some 3), (.mv (.tmp 0)), .none⟩,
   ⟨(.some 4), (.isnil .false (.tmp 3)), .none⟩]
def f33g2 : List RO :=
  [⟨(.some 2), (.mv (.const (.slice .none 0 0))), .none⟩]
def f33g3 : List RO :=
  [⟨(.some 5), (.bslice 1 []), .none⟩,
   ⟨(.some 6), (.mv (.tmp 0)), .none⟩,
   ⟨(.some 7), (.app 1 16 (.tmp 5) (.tmp 6)), .none⟩,
   ⟨(.some 2), (.mv (.tmp 7)), .none⟩]
def f33c : RCode := (.seq (.reg .false f33g0) (.seq (.seq (.reg .false f33g1) (.cond (.tmp 4) (.seq (.reg .false f33g2) .ret) .skip)) (.seq (.reg .false f33g3) .ret)))
def f33r : List RRes := [(.tmp 2)]
attribute [push_cast] f33g0 f33g1 f33g2 f33g3
def F33 (N : Nat) (p0 : (List Str)) : Option (List Str) := if? p0.isEmpty (some ([])) (gd? (p0.length * 16 ≤ 140737488355328) (some (p0)))
theorem c33 (N : Nat) (p0 : (List Str)) (r : (List Str)) (h : F33 N p0 = some r) : ACall Try.prog 33 [.D (.L (p0.map rS))] [] (.sl (.O 0) 1 0 r.length) [] [.row true 1 (r.map rS)] := by
  refine ACall.of_bodyW [] (fn := Try.f33) (rc := f33c) (rs := f33r) Try.func33 rfl rfl (by kernel_rfl) (by kernel_rfl) (by kernel_rfl) (by rw [Try.ntmps33]; simp) ?_
  unfold F33 at h
  unfold f33c f33r
  rw [entry_eq _ _]
  rcases F_if h with ⟨h88, h⟩ | ⟨h88, h⟩
  · have h89 := List.isEmpty_iff.1 h88
    simp (config := { maxSteps := 1000000 }) (disch := first | assumption | (simp; done) | omega | (simp; omega)) only [push_cast, reduceCtorEq, Nat.reduceEqDiff, Nat.reduceAdd, Nat.reduceSub, Nat.reduceMul, Nat.reduceLeDiff, Nat.reduceLT, Int.reduceEq, Int.reduceNe, Int.reduceLT, Int.reduceLE, Int.reduceGT, Int.reduceGE, Int.reduceBEq, Int.reduceBNe, ↓reduceIte, h89]
    refine cd_ab ?_ ?_
    · obtain rfl := Option.some.inj h
      simp (config := { maxSteps := 1000000 }) (disch := first | assumption | (simp; done) | omega | (simp; omega)) only [push_cast, reduceCtorEq, Nat.reduceEqDiff, Nat.reduceAdd, Nat.reduceSub, Nat.reduceMul, Nat.reduceLeDiff, Nat.reduceLT, Int.reduceEq, Int.reduceNe, Int.reduceLT, Int.reduceLE, Int.reduceGT, Int.reduceGE, Int.reduceBEq, Int.reduceBNe, ↓reduceIte, h89]
      refine end_own0 2 1 rfl ?_
      simp (config := { maxSteps := 1000000 }) (disch := first | assumption | (simp; done) | omega | (simp; omega)) only [push_cast, reduceCtorEq, Nat.reduceEqDiff, Nat.reduceAdd, Nat.reduceSub, Nat.reduceMul, Nat.reduceLeDiff, Nat.reduceLT, Int.reduceEq, Int.reduceNe, Int.reduceLT, Int.reduceLE, Int.reduceGT, Int.reduceGE, Int.reduceBEq, Int.reduceBNe, ↓reduceIte, h89]
      refine AEndW.of [0] (.inr rfl) (by decide) rfl ?_ rfl ?_
      · simp (config := { maxSteps := 1000000 }) (disch := first | assumption | (simp; done) | omega | (simp; omega)) only [push_cast, reduceCtorEq, Nat.reduceEqDiff, Nat.reduceAdd, Nat.reduceSub, Nat.reduceMul, Nat.reduceLeDiff, Nat.reduceLT, Int.reduceEq, Int.reduceNe, Int.reduceLT, Int.reduceLE, Int.reduceGT, Int.reduceGE, Int.reduceBEq, Int.reduceBNe, ↓reduceIte, h89] <;> rfl
      · simp (config := { maxSteps := 1000000 }) (disch := first | assumption | (simp; done) | omega | (simp; omega)) only [push_cast, reduceCtorEq, Nat.reduceEqDiff, Nat.reduceAdd, Nat.reduceSub, Nat.reduceMul, Nat.reduceLeDiff, Nat.reduceLT, Int.reduceEq, Int.reduceNe, Int.reduceLT, Int.reduceLE, Int.reduceGT, Int.reduceGE, Int.reduceBEq, Int.reduceBNe, ↓reduceIte, h89] <;> rfl
    · obtain rfl := Option.some.inj h
      simp (config := { maxSteps := 1000000 }) (disch := first | assumption | (simp; done) | omega | (simp; omega)) only [push_cast, reduceCtorEq, Nat.reduceEqDiff, Nat.reduceAdd, Nat.reduceSub, Nat.reduceMul, Nat.reduceLeDiff, Nat.reduceLT, Int.reduceEq, Int.reduceNe, Int.reduceLT, Int.reduceLE, Int.reduceGT, Int.reduceGE, Int.reduceBEq, Int.reduceBNe, ↓reduceIte, h89]
      refine AEndW.of [0] (.inr rfl) (by decide) rfl ?_ rfl ?_
      · simp (config := { maxSteps := 1000000 }) (disch := first | assumption | (simp; done) | omega | (simp; omega)) only [push_cast, reduceCtorEq, Nat.reduceEqDiff, Nat.reduceAdd, Nat.reduceSub, Nat.reduceMul, Nat.reduceLeDiff, Nat.reduceLT, Int.reduceEq, Int.reduceNe, Int.reduceLT, Int.reduceLE, Int.reduceGT, Int.reduceGE, Int.reduceBEq, Int.reduceBNe, ↓reduceIte, h89] <;> rfl
      · simp (config := { maxSteps := 1000000 }) (disch := first | assumption | (simp; done) | omega | (simp; omega)) only [push_cast, reduceCtorEq, Nat.reduceEqDiff, Nat.reduceAdd, Nat.reduceSub, Nat.reduceMul, Nat.reduceLeDiff, Nat.reduceLT, Int.reduceEq, Int.reduceNe, Int.reduceLT, Int.reduceLE, Int.reduceGT, Int.reduceGE, Int.reduceBEq, Int.reduceBNe, ↓reduceIte, h89] <;> rfl
  · have h89 := isEmpty_no h88
    have h90 := map_no rS h89
    try simp (disch := first | assumption | (simp; done) | omega | (simp; omega)) only [push_cast, reduceCtorEq, Nat.reduceEqDiff, Nat.reduceAdd, Nat.reduceSub, Nat.reduceMul, Nat.reduceLeDiff, Nat.reduceLT, Int.reduceEq, Int.reduceNe, Int.reduceLT, Int.reduceLE, Int.reduceGT, Int.reduceGE, Int.reduceBEq, Int.reduceBNe, ↓reduceIte] at h90
    have h91 := len_no h89
    obtain ⟨h92, h⟩ := F_gd h
    try simp (disch := first | assumption | (simp; done) | omega | (simp; omega)) only [push_cast, reduceCtorEq, Nat.reduceEqDiff, Nat.reduceAdd, Nat.reduceSub, Nat.reduceMul, Nat.reduceLeDiff, Nat.reduceLT, Int.reduceEq, Int.reduceNe, Int.reduceLT, Int.reduceLE, Int.reduceGT, Int.reduceGE, Int.reduceBEq, Int.reduceBNe, ↓reduceIte] at h92
    obtain rfl := Option.some.inj h
    simp (config := { maxSteps := 1000000 }) (disch := first | assumption | (simp; done) | omega | (simp; omega)) only [push_cast, reduceCtorEq, Nat.reduceEqDiff, Nat.reduceAdd, Nat.reduceSub, Nat.reduceMul, Nat.reduceLeDiff, Nat.reduceLT, Int.reduceEq, Int.reduceNe, Int.reduceLT, Int.reduceLE, Int.reduceGT, Int.reduceGE, Int.reduceBEq, Int.reduceBNe, ↓reduceIte, h92]
    refine AEndW.of [0] (.inr rfl) (by decide) rfl ?_ rfl ?_
    · simp (config := { maxSteps := 1000000 }) (disch := first | assumption | (simp; done) | omega | (simp; omega)) only [push_cast, reduceCtorEq, Nat.reduceEqDiff, Nat.reduceAdd, Nat.reduceSub, Nat.reduceMul, Nat.reduceLeDiff, Nat.reduceLT, Int.reduceEq, Int.reduceNe, Int.reduceLT, Int.reduceLE, Int.reduceGT, Int.reduceGE, Int.reduceBEq, Int.reduceBNe, ↓reduceIte, h92] <;> rfl
    · simp (config := { maxSteps := 1000000 }) (disch := first | assumption | (simp; done) | omega | (simp; omega)) only [push_cast, reduceCtorEq, Nat.reduceEqDiff, Nat.reduceAdd, Nat.reduceSub, Nat.reduceMul, Nat.reduceLeDiff, Nat.reduceLT, Int.reduceEq, Int.reduceNe, Int.reduceLT, Int.reduceLE, Int.reduceGT, Int.reduceGE, Int.reduceBEq, Int.reduceBNe, ↓reduceIte, h92] <;> rfl

/-! ## 10 rivermark.link.Put -/
def f10g0 : List RO :=
  [⟨(.some 2), (.box (.tmp 0)), .none⟩,
   ⟨(.some 4), (.new [(.D (.I .i64 0)), (.D (.I .i64 0)), (.D (.S [])), (.fl [])]), .none⟩,
   ⟨(.some 5), (.mv (.const (.int .i64 0))), .none⟩]
def f10g1 : List RO :=
  [⟨(.some 7), (.load (.some 4) (.tmp 2)), .none⟩,
   ⟨(.some 8), (.call (.func 18) [(.tmp 7)]), .none⟩,
   ⟨(.some 9), (.un .not (.tmp 8)), .none⟩,
   ⟨(.some 6), (.mv (.tmp 9)), .none⟩]
def f10g2 : List RO :=
  [⟨(.some 10), (.mv (.tmp 1)), .none⟩,
   ⟨(.some 11), (.call (.func 31) [(.tmp 10)]), .none⟩,
   ⟨(.some 12), (.un .not (.tmp 11)), .none⟩,
   ⟨(.some 6), (.mv (.tmp 12)), .none⟩]
def f10g3 : List RO :=
  [⟨(.some 13), (.build [(.D (.I .i64 0)), (.D (.I .i64 0)), (.D (.S [])), (.fl [])] []), .none⟩,
   ⟨.none, (.store 4 (.tmp 4) (.tmp 13)), .none⟩,
   ⟨(.some 5), (.mv (.const (.int .i64 1))), .none⟩]
def f10g4 : List RO :=
  [⟨(.some 15), (.faddr 3 (.tmp 2)), .none⟩,
   ⟨(.some 16), (.load .none (.tmp 15)), .none⟩,
   ⟨(.some 17), (.len .false (.tmp 16)), .none⟩,
   ⟨(.some 18), (.bin .eql (.tmp 17) (.const (.int .i64 1000))), .none⟩,
   ⟨(.some 14), (.mv (.tmp 18)), .none⟩]
def f10g5 : List RO :=
  [⟨(.some 19), (.load (.some 4) (.tmp 2)), .none⟩,
   ⟨(.some 20), (.call (.func 32) [(.tmp 19)]), .none⟩,
   ⟨(.some 21), (.bin .geq (.tmp 20) (.const (.int .i64 1099511627776))), .none⟩,
   ⟨(.some 14), (.mv (.tmp 21)), .none⟩]
def f10g6 : List RO :=
  [⟨(.some 22), (.build [(.D (.I .i64 0)), (.D (.I .i64 0)), (.D (.S [])), (.fl [])] []), .none⟩,
   ⟨.none, (.store 4 (.tmp 4) (.tmp 22)), .none⟩,
   ⟨(.some 5), (.mv (.const (.int .i64 2))), .none⟩]
def f10g7 : List RO :=
  [⟨(.some 23), (.faddr 3 (.tmp 2)), .none⟩,
   ⟨(.some 24), (.load .none (.tmp 23)), .none⟩,
   ⟨(.some 25), (.call (.func 33) [(.tmp 24)]), .none⟩,
   ⟨(.some 26), (.mv (.tmp 1)), .none⟩,
   ⟨(.some 27), (.bslice 1 [(.tmp 26)]), .none⟩,
   ⟨(.some 28), (.appE 1 16 (.tmp 25) (.tmp 27)), .none⟩,
   ⟨(.some 29), (.faddr 3 (.tmp 2)), .none⟩,
   ⟨.none, (.store 1 (.tmp 29) (.tmp 28)), .none⟩]
def f10g8 : List RO :=
  [⟨(.some 30), (.load (.some 4) (.tmp 2)), .none⟩,
   ⟨.none, (.store 4 (.tmp 4) (.tmp 30)), .none⟩,
   ⟨(.some 5), (.mv (.const (.int .i64 0))), .none⟩]
def f10c : RCode := (.seq (.reg .false f10g0) (.seq (.block 0 (.seq (.seq (.reg .false f10g1) (.cond (.tmp 6) .skip (.reg .false f10g2))) (.cond (.tmp 6) (.seq (.reg .false f10g3) .ret) (.seq (.seq (.reg .false f10g4) (.cond (.tmp 14) .skip (.reg .false f10g5))) (.cond (.tmp 14) (.seq (.reg .false f10g6) .ret) .skip))))) (.seq (.reg .false f10g7) (.seq (.reg .false f10g8) .ret))))
def f10r : List RRes := [(.cell (.some 4) 4), (.tmp 5)]
attribute [push_cast] f10g0 f10g1 f10g2 f10g3 f10g4 f10g5 f10g6 f10g7 f10g8
def F10 (N : Nat) (p0 : Outbox) (p1 : Str) : Option (Outbox × Int) := bd? (F18 N p0) fun v1 => if? (v1) (bd? (F31 N p1) fun v2 => if? (v2) (if? (((p0.Queue.length : Int) == 1000)) (some ((Outbox.mk 0 0 ([] : Str) []), 2)) (bd? (F32 N p0) fun v3 => if? (decide (v3 ≥ 1099511627776)) (some ((Outbox.mk 0 0 ([] : Str) []), 2)) (bd? (F33 N p0.Queue) fun v4 => gd? ((v4.length + [p1].length) * 16 ≤ 140737488355328) (some ((Outbox.mk p0.Base p0.Acked p0.Summary (v4 ++ [p1])), 0))))) (some ((Outbox.mk 0 0 ([] : Str) []), 1))) (some ((Outbox.mk 0 0 ([] : Str) []), 1))
theorem c10 (N : Nat) (p0 : Outbox) (p1 : Str) (r : (Outbox × Int)) (h : F10 N p0 p1 = some r) : ACall Try.prog 10 [.agg [.D (.I .i64 p0.Base), .D (.I .i64 p0.Acked), .D (.S p0.Summary), .D (.L (p0.Queue.map rS))], .D (.S p1)] [] (.tup [.agg [.D (.I .i64 r.1.Base), .D (.I .i64 r.1.Acked), .D (.S r.1.Summary), .D (.L (r.1.Queue.map rS))], .D (.I .i64 r.2)]) [] [] := by
  refine ACall.of_bodyW [28] (fn := Try.f10) (rc := f10c) (rs := f10r) Try.func10 rfl rfl (by kernel_rfl) (by kernel_rfl) (by kernel_rfl) (by rw [Try.ntmps10]; simp) ?_
  unfold F10 at h
  unfold f10c f10r
  rw [entry_eq _ _]
  obtain ⟨v1, h102, h⟩ := F_bd h
  simp (config := { maxSteps := 1000000 }) (disch := first | assumption | (simp; done) | omega | (simp; omega)) only [push_cast, reduceCtorEq, Nat.reduceEqDiff, Nat.reduceAdd, Nat.reduceSub, Nat.reduceMul, Nat.reduceLeDiff, Nat.reduceLT, Int.reduceEq, Int.reduceNe, Int.reduceLT, Int.reduceLE, Int.reduceGT, Int.reduceGE, Int.reduceBEq, Int.reduceBNe, ↓reduceIte]
  refine call_flat (by rfl) (c18 N _ _ h102) ?_ rfl ?_
  · simp (config := { maxSteps := 1000000 }) (disch := first | assumption | (simp; done) | omega | (simp; omega)) only [push_cast, reduceCtorEq, Nat.reduceEqDiff, Nat.reduceAdd, Nat.reduceSub, Nat.reduceMul, Nat.reduceLeDiff, Nat.reduceLT, Int.reduceEq, Int.reduceNe, Int.reduceLT, Int.reduceLE, Int.reduceGT, Int.reduceGE, Int.reduceBEq, Int.reduceBNe, ↓reduceIte] <;> rfl
  rcases F_if h with ⟨h103, h⟩ | ⟨h103, h⟩
  · try simp (disch := first | assumption | (simp; done) | omega | (simp; omega)) only [push_cast, reduceCtorEq, Nat.reduceEqDiff, Nat.reduceAdd, Nat.reduceSub, Nat.reduceMul, Nat.reduceLeDiff, Nat.reduceLT, Int.reduceEq, Int.reduceNe, Int.reduceLT, Int.reduceLE, Int.reduceGT, Int.reduceGE, Int.reduceBEq, Int.reduceBNe, ↓reduceIte] at h103
    obtain ⟨v2, h104, h⟩ := F_bd h
    simp (config := { maxSteps := 1000000 }) (disch := first | assumption | (simp; done) | omega | (simp; omega)) only [push_cast, reduceCtorEq, Nat.reduceEqDiff, Nat.reduceAdd, Nat.reduceSub, Nat.reduceMul, Nat.reduceLeDiff, Nat.reduceLT, Int.reduceEq, Int.reduceNe, Int.reduceLT, Int.reduceLE, Int.reduceGT, Int.reduceGE, Int.reduceBEq, Int.reduceBNe, ↓reduceIte, h103]
    refine call_flat (by rfl) (c31 N _ _ h104) ?_ rfl ?_
    · simp (config := { maxSteps := 1000000 }) (disch := first | assumption | (simp; done) | omega | (simp; omega)) only [push_cast, reduceCtorEq, Nat.reduceEqDiff, Nat.reduceAdd, Nat.reduceSub, Nat.reduceMul, Nat.reduceLeDiff, Nat.reduceLT, Int.reduceEq, Int.reduceNe, Int.reduceLT, Int.reduceLE, Int.reduceGT, Int.reduceGE, Int.reduceBEq, Int.reduceBNe, ↓reduceIte, h103] <;> rfl
    rcases F_if h with ⟨h105, h⟩ | ⟨h105, h⟩
    · try simp (disch := first | assumption | (simp; done) | omega | (simp; omega)) only [push_cast, reduceCtorEq, Nat.reduceEqDiff, Nat.reduceAdd, Nat.reduceSub, Nat.reduceMul, Nat.reduceLeDiff, Nat.reduceLT, Int.reduceEq, Int.reduceNe, Int.reduceLT, Int.reduceLE, Int.reduceGT, Int.reduceGE, Int.reduceBEq, Int.reduceBNe, ↓reduceIte] at h105
      rcases F_if h with ⟨h106, h⟩ | ⟨h106, h⟩
      · try simp (disch := first | assumption | (simp; done) | omega | (simp; omega)) only [push_cast, reduceCtorEq, Nat.reduceEqDiff, Nat.reduceAdd, Nat.reduceSub, Nat.reduceMul, Nat.reduceLeDiff, Nat.reduceLT, Int.reduceEq, Int.reduceNe, Int.reduceLT, Int.reduceLE, Int.reduceGT, Int.reduceGE, Int.reduceBEq, Int.reduceBNe, ↓reduceIte] at h106
        obtain rfl := Option.some.inj h
        simp (config := { maxSteps := 1000000 }) (disch := first | assumption | (simp; done) | omega | (simp; omega)) only [push_cast, reduceCtorEq, Nat.reduceEqDiff, Nat.reduceAdd, Nat.reduceSub, Nat.reduceMul, Nat.reduceLeDiff, Nat.reduceLT, Int.reduceEq, Int.reduceNe, Int.reduceLT, Int.reduceLE, Int.reduceGT, Int.reduceGE, Int.reduceBEq, Int.reduceBNe, ↓reduceIte, h103, h105, h106]
        refine e_ret (.inr rfl) ?_
        simp (config := { maxSteps := 1000000 }) (disch := first | assumption | (simp; done) | omega | (simp; omega)) only [push_cast, reduceCtorEq, Nat.reduceEqDiff, Nat.reduceAdd, Nat.reduceSub, Nat.reduceMul, Nat.reduceLeDiff, Nat.reduceLT, Int.reduceEq, Int.reduceNe, Int.reduceLT, Int.reduceLE, Int.reduceGT, Int.reduceGE, Int.reduceBEq, Int.reduceBNe, ↓reduceIte, aret, aresults, aresult, h103, h105, h106]
        refine ⟨_, rfl, ?_⟩
        first | (simp (config := { maxSteps := 1000000 }) (disch := first | assumption | (simp; done) | omega | (simp; omega)) only [push_cast, reduceCtorEq, Nat.reduceEqDiff, Nat.reduceAdd, Nat.reduceSub, Nat.reduceMul, Nat.reduceLeDiff, Nat.reduceLT, Int.reduceEq, Int.reduceNe, Int.reduceLT, Int.reduceLE, Int.reduceGT, Int.reduceGE, Int.reduceBEq, Int.reduceBNe, ↓reduceIte, h103, h105, h106] <;> rfl) | rfl
      · try simp (disch := first | assumption | (simp; done) | omega | (simp; omega)) only [push_cast, reduceCtorEq, Nat.reduceEqDiff, Nat.reduceAdd, Nat.reduceSub, Nat.reduceMul, Nat.reduceLeDiff, Nat.reduceLT, Int.reduceEq, Int.reduceNe, Int.reduceLT, Int.reduceLE, Int.reduceGT, Int.reduceGE, Int.reduceBEq, Int.reduceBNe, ↓reduceIte] at h106
        obtain ⟨v3, h107, h⟩ := F_bd h
        simp (config := { maxSteps := 1000000 }) (disch := first | assumption | (simp; done) | omega | (simp; omega)) only [push_cast, reduceCtorEq, Nat.reduceEqDiff, Nat.reduceAdd, Nat.reduceSub, Nat.reduceMul, Nat.reduceLeDiff, Nat.reduceLT, Int.reduceEq, Int.reduceNe, Int.reduceLT, Int.reduceLE, Int.reduceGT, Int.reduceGE, Int.reduceBEq, Int.reduceBNe, ↓reduceIte, h103, h105, h106]
        refine call_flat (by rfl) (c32 N _ _ h107) ?_ rfl ?_
        · simp (config := { maxSteps := 1000000 }) (disch := first | assumption | (simp; done) | omega | (simp; omega)) only [push_cast, reduceCtorEq, Nat.reduceEqDiff, Nat.reduceAdd, Nat.reduceSub, Nat.reduceMul, Nat.reduceLeDiff, Nat.reduceLT, Int.reduceEq, Int.reduceNe, Int.reduceLT, Int.reduceLE, Int.reduceGT, Int.reduceGE, Int.reduceBEq, Int.reduceBNe, ↓reduceIte, h103, h105, h106] <;> rfl
        rcases F_if h with ⟨h108, h⟩ | ⟨h108, h⟩
        · try simp (disch := first | assumption | (simp; done) | omega | (simp; omega)) only [push_cast, reduceCtorEq, Nat.reduceEqDiff, Nat.reduceAdd, Nat.reduceSub, Nat.reduceMul, Nat.reduceLeDiff, Nat.reduceLT, Int.reduceEq, Int.reduceNe, Int.reduceLT, Int.reduceLE, Int.reduceGT, Int.reduceGE, Int.reduceBEq, Int.reduceBNe, ↓reduceIte] at h108
          obtain rfl := Option.some.inj h
          simp (config := { maxSteps := 1000000 }) (disch := first | assumption | (simp; done) | omega | (simp; omega)) only [push_cast, reduceCtorEq, Nat.reduceEqDiff, Nat.reduceAdd, Nat.reduceSub, Nat.reduceMul, Nat.reduceLeDiff, Nat.reduceLT, Int.reduceEq, Int.reduceNe, Int.reduceLT, Int.reduceLE, Int.reduceGT, Int.reduceGE, Int.reduceBEq, Int.reduceBNe, ↓reduceIte, h103, h105, h106, h108]
          refine e_ret (.inr rfl) ?_
          simp (config := { maxSteps := 1000000 }) (disch := first | assumption | (simp; done) | omega | (simp; omega)) only [push_cast, reduceCtorEq, Nat.reduceEqDiff, Nat.reduceAdd, Nat.reduceSub, Nat.reduceMul, Nat.reduceLeDiff, Nat.reduceLT, Int.reduceEq, Int.reduceNe, Int.reduceLT, Int.reduceLE, Int.reduceGT, Int.reduceGE, Int.reduceBEq, Int.reduceBNe, ↓reduceIte, aret, aresults, aresult, h103, h105, h106, h108]
          refine ⟨_, rfl, ?_⟩
          first | (simp (config := { maxSteps := 1000000 }) (disch := first | assumption | (simp; done) | omega | (simp; omega)) only [push_cast, reduceCtorEq, Nat.reduceEqDiff, Nat.reduceAdd, Nat.reduceSub, Nat.reduceMul, Nat.reduceLeDiff, Nat.reduceLT, Int.reduceEq, Int.reduceNe, Int.reduceLT, Int.reduceLE, Int.reduceGT, Int.reduceGE, Int.reduceBEq, Int.reduceBNe, ↓reduceIte, h103, h105, h106, h108] <;> rfl) | rfl
        · try simp (disch := first | assumption | (simp; done) | omega | (simp; omega)) only [push_cast, reduceCtorEq, Nat.reduceEqDiff, Nat.reduceAdd, Nat.reduceSub, Nat.reduceMul, Nat.reduceLeDiff, Nat.reduceLT, Int.reduceEq, Int.reduceNe, Int.reduceLT, Int.reduceLE, Int.reduceGT, Int.reduceGE, Int.reduceBEq, Int.reduceBNe, ↓reduceIte] at h108
          obtain ⟨v4, h109, h⟩ := F_bd h
          simp (config := { maxSteps := 1000000 }) (disch := first | assumption | (simp; done) | omega | (simp; omega)) only [push_cast, reduceCtorEq, Nat.reduceEqDiff, Nat.reduceAdd, Nat.reduceSub, Nat.reduceMul, Nat.reduceLeDiff, Nat.reduceLT, Int.reduceEq, Int.reduceNe, Int.reduceLT, Int.reduceLE, Int.reduceGT, Int.reduceGE, Int.reduceBEq, Int.reduceBNe, ↓reduceIte, h103, h105, h106, h108]
          refine call_new (by rfl) (c33 N _ _ h109) ?_ rfl ?_
          · simp (config := { maxSteps := 1000000 }) (disch := first | assumption | (simp; done) | omega | (simp; omega)) only [push_cast, reduceCtorEq, Nat.reduceEqDiff, Nat.reduceAdd, Nat.reduceSub, Nat.reduceMul, Nat.reduceLeDiff, Nat.reduceLT, Int.reduceEq, Int.reduceNe, Int.reduceLT, Int.reduceLE, Int.reduceGT, Int.reduceGE, Int.reduceBEq, Int.reduceBNe, ↓reduceIte, h103, h105, h106, h108] <;> rfl
          obtain ⟨h110, h⟩ := F_gd h
          try simp (disch := first | assumption | (simp; done) | omega | (simp; omega)) only [push_cast, reduceCtorEq, Nat.reduceEqDiff, Nat.reduceAdd, Nat.reduceSub, Nat.reduceMul, Nat.reduceLeDiff, Nat.reduceLT, Int.reduceEq, Int.reduceNe, Int.reduceLT, Int.reduceLE, Int.reduceGT, Int.reduceGE, Int.reduceBEq, Int.reduceBNe, ↓reduceIte] at h110
          obtain rfl := Option.some.inj h
          simp (config := { maxSteps := 1000000 }) (disch := first | assumption | (simp; done) | omega | (simp; omega)) only [push_cast, reduceCtorEq, Nat.reduceEqDiff, Nat.reduceAdd, Nat.reduceSub, Nat.reduceMul, Nat.reduceLeDiff, Nat.reduceLT, Int.reduceEq, Int.reduceNe, Int.reduceLT, Int.reduceLE, Int.reduceGT, Int.reduceGE, Int.reduceBEq, Int.reduceBNe, ↓reduceIte, h103, h105, h106, h108, h110]
          refine e_ret (.inr rfl) ?_
          simp (config := { maxSteps := 1000000 }) (disch := first | assumption | (simp; done) | omega | (simp; omega)) only [push_cast, reduceCtorEq, Nat.reduceEqDiff, Nat.reduceAdd, Nat.reduceSub, Nat.reduceMul, Nat.reduceLeDiff, Nat.reduceLT, Int.reduceEq, Int.reduceNe, Int.reduceLT, Int.reduceLE, Int.reduceGT, Int.reduceGE, Int.reduceBEq, Int.reduceBNe, ↓reduceIte, aret, aresults, aresult, h103, h105, h106, h108, h110]
          refine ⟨_, rfl, ?_⟩
          first | (simp (config := { maxSteps := 1000000 }) (disch := first | assumption | (simp; done) | omega | (simp; omega)) only [push_cast, reduceCtorEq, Nat.reduceEqDiff, Nat.reduceAdd, Nat.reduceSub, Nat.reduceMul, Nat.reduceLeDiff, Nat.reduceLT, Int.reduceEq, Int.reduceNe, Int.reduceLT, Int.reduceLE, Int.reduceGT, Int.reduceGE, Int.reduceBEq, Int.reduceBNe, ↓reduceIte, h103, h105, h106, h108, h110] <;> rfl) | rfl
    · try simp (disch := first | assumption | (simp; done) | omega | (simp; omega)) only [push_cast, reduceCtorEq, Nat.reduceEqDiff, Nat.reduceAdd, Nat.reduceSub, Nat.reduceMul, Nat.reduceLeDiff, Nat.reduceLT, Int.reduceEq, Int.reduceNe, Int.reduceLT, Int.reduceLE, Int.reduceGT, Int.reduceGE, Int.reduceBEq, Int.reduceBNe, ↓reduceIte] at h105
      obtain rfl := Option.some.inj h
      simp (config := { maxSteps := 1000000 }) (disch := first | assumption | (simp; done) | omega | (simp; omega)) only [push_cast, reduceCtorEq, Nat.reduceEqDiff, Nat.reduceAdd, Nat.reduceSub, Nat.reduceMul, Nat.reduceLeDiff, Nat.reduceLT, Int.reduceEq, Int.reduceNe, Int.reduceLT, Int.reduceLE, Int.reduceGT, Int.reduceGE, Int.reduceBEq, Int.reduceBNe, ↓reduceIte, h103, h105]
      refine e_ret (.inr rfl) ?_
      simp (config := { maxSteps := 1000000 }) (disch := first | assumption | (simp; done) | omega | (simp; omega)) only [push_cast, reduceCtorEq, Nat.reduceEqDiff, Nat.reduceAdd, Nat.reduceSub, Nat.reduceMul, Nat.reduceLeDiff, Nat.reduceLT, Int.reduceEq, Int.reduceNe, Int.reduceLT, Int.reduceLE, Int.reduceGT, Int.reduceGE, Int.reduceBEq, Int.reduceBNe, ↓reduceIte, aret, aresults, aresult, h103, h105]
      refine ⟨_, rfl, ?_⟩
      first | (simp (config := { maxSteps := 1000000 }) (disch := first | assumption | (simp; done) | omega | (simp; omega)) only [push_cast, reduceCtorEq, Nat.reduceEqDiff, Nat.reduceAdd, Nat.reduceSub, Nat.reduceMul, Nat.reduceLeDiff, Nat.reduceLT, Int.reduceEq, Int.reduceNe, Int.reduceLT, Int.reduceLE, Int.reduceGT, Int.reduceGE, Int.reduceBEq, Int.reduceBNe, ↓reduceIte, h103, h105] <;> rfl) | rfl
  · try simp (disch := first | assumption | (simp; done) | omega | (simp; omega)) only [push_cast, reduceCtorEq, Nat.reduceEqDiff, Nat.reduceAdd, Nat.reduceSub, Nat.reduceMul, Nat.reduceLeDiff, Nat.reduceLT, Int.reduceEq, Int.reduceNe, Int.reduceLT, Int.reduceLE, Int.reduceGT, Int.reduceGE, Int.reduceBEq, Int.reduceBNe, ↓reduceIte] at h103
    obtain rfl := Option.some.inj h
    simp (config := { maxSteps := 1000000 }) (disch := first | assumption | (simp; done) | omega | (simp; omega)) only [push_cast, reduceCtorEq, Nat.reduceEqDiff, Nat.reduceAdd, Nat.reduceSub, Nat.reduceMul, Nat.reduceLeDiff, Nat.reduceLT, Int.reduceEq, Int.reduceNe, Int.reduceLT, Int.reduceLE, Int.reduceGT, Int.reduceGE, Int.reduceBEq, Int.reduceBNe, ↓reduceIte, h103]
    refine e_ret (.inr rfl) ?_
    simp (config := { maxSteps := 1000000 }) (disch := first | assumption | (simp; done) | omega | (simp; omega)) only [push_cast, reduceCtorEq, Nat.reduceEqDiff, Nat.reduceAdd, Nat.reduceSub, Nat.reduceMul, Nat.reduceLeDiff, Nat.reduceLT, Int.reduceEq, Int.reduceNe, Int.reduceLT, Int.reduceLE, Int.reduceGT, Int.reduceGE, Int.reduceBEq, Int.reduceBNe, ↓reduceIte, aret, aresults, aresult, h103]
    refine ⟨_, rfl, ?_⟩
    first | (simp (config := { maxSteps := 1000000 }) (disch := first | assumption | (simp; done) | omega | (simp; omega)) only [push_cast, reduceCtorEq, Nat.reduceEqDiff, Nat.reduceAdd, Nat.reduceSub, Nat.reduceMul, Nat.reduceLeDiff, Nat.reduceLT, Int.reduceEq, Int.reduceNe, Int.reduceLT, Int.reduceLE, Int.reduceGT, Int.reduceGE, Int.reduceBEq, Int.reduceBNe, ↓reduceIte, h103] <;> rfl) | rfl

/-! ## 30 rivermark.rivermarklaw11.put -/
def f30g0 : List RO :=
  [⟨(.some 0), (.new [(.D (.I .i64 0)), (.D (.I .i64 0)), (.D (.S [])), (.fl [])]), .none⟩,
   ⟨(.some 1), (.mv (.const (.bool .false))), .none⟩]
def f30g1 : List RO :=
  [⟨(.some 2), (.new [(.D (.I .i64 0)), (.D (.I .i64 0)), (.D (.S [])), (.fl [])]), .none⟩]
def f30g2 : List RO :=
  [⟨(.some 3), (.mv (.const (.int .i64 0))), .none⟩]
def f30g3 : List RO :=
  [⟨(.some 6), (.mv (.tmp 3)), .none⟩,
   ⟨(.some 7), (.bin .lss (.tmp 6) (.const (.int .i64 3))), .none⟩]
def f30g4 : List RO :=
  [⟨(.some 11), (.load (.some 4) (.tmp 2)), .none⟩,
   ⟨(.some 12), (.mv (.tmp 3)), .none⟩,
   ⟨(.some 13), (.bin .add (.const (.int .i64 97)) (.tmp 12)), .none⟩,
   ⟨(.some 14), (.cvI .u8 (.tmp 13)), .none⟩,
   ⟨(.some 15), (.bslice 1 [(.tmp 14)]), .none⟩,
   ⟨(.some 16), (.cvS (.tmp 15)), .none⟩,
   ⟨(.some 17), (.call (.func 10) [(.tmp 11), (.tmp 16)]), .none⟩,
   ⟨(.some 10), (.mv (.tmp 17)), .none⟩,
   ⟨(.some 18), (.ext (.tmp 10) 0), .none⟩,
   ⟨(.some 19), (.ext (.tmp 10) 1), .none⟩,
   ⟨(.some 4), (.new [(.D (.I .i64 0)), (.D (.I .i64 0)), (.D (.S [])), (.fl [])]), .none⟩,
   ⟨.none, (.store 4 (.tmp 4) (.tmp 18)), .none⟩,
   ⟨(.some 5), (.mv (.tmp 19)), .none⟩]
def f30g5 : List RO :=
  [⟨(.some 20), (.mv (.tmp 5)), .none⟩,
   ⟨(.some 21), (.bin .neq (.tmp 20) (.const (.int .i64 0))), .none⟩]
def f30g6 : List RO :=
  [⟨(.some 22), (.load (.some 4) (.tmp 2)), .none⟩,
   ⟨.none, (.store 4 (.tmp 0) (.tmp 22)), .none⟩,
   ⟨(.some 1), (.mv (.const (.bool .false))), .none⟩]
def f30g7 : List RO :=
  [⟨(.some 23), (.load (.some 4) (.tmp 4)), .none⟩,
   ⟨.none, (.store 4 (.tmp 2) (.tmp 23)), .none⟩]
def f30g8 : List RO :=
  [⟨(.some 8), (.mv (.tmp 3)), .none⟩,
   ⟨(.some 9), (.bin .add (.tmp 8) (.const (.int .i64 1))), .none⟩,
   ⟨(.some 3), (.mv (.tmp 9)), .none⟩]
def f30b9 : RCode := (.seq (.seq (.reg .false f30g3) (.cond (.tmp 7) .skip (.exit 0))) (.seq (.block 1 (.seq (.reg .false f30g4) (.seq (.seq (.reg .false f30g5) (.cond (.tmp 21) (.seq (.reg .false f30g6) .ret) .skip)) (.reg .false f30g7)))) (.reg .false f30g8)))
def f30g10 : List RO :=
  [⟨(.some 24), (.load (.some 4) (.tmp 2)), .none⟩,
   ⟨.none, (.store 4 (.tmp 0) (.tmp 24)), .none⟩,
   ⟨(.some 1), (.mv (.const (.bool .true))), .none⟩]
def f30c : RCode := (.seq (.reg .false f30g0) (.seq (.reg .false f30g1) (.seq (.seq (.reg .false f30g2) (.block 0 (.loop f30b9))) (.seq (.reg .false f30g10) .ret))))
def f30r : List RRes := [(.cell (.some 4) 0), (.tmp 1)]
attribute [push_cast] f30g0 f30g1 f30g2 f30g3 f30g4 f30g5 f30g6 f30g7 f30g8 f30g10
def L30_0 (N : Nat) : Nat → Int → Int → Int → Str → (List Str) → Option (Outbox × Bool)
  | 0, _, _, _, _, _ => none
  | m1+1, a1, a2, a3, a4, a5 => if? (decide (a1 < 3)) (ck .i64 (97 + a1) (bd? (F10 N (Outbox.mk a2 a3 a4 a5) (bytesI [(IntKind.wrap .u8 ((97 + a1)))])) fun v6 => if? ((v6.2 != 0)) (some ((Outbox.mk a2 a3 a4 a5), false)) (ck .i64 (a1 + 1) (L30_0 N m1 (a1 + 1) v6.1.Base v6.1.Acked v6.1.Summary v6.1.Queue)))) (some ((Outbox.mk a2 a3 a4 a5), true))
def I30_0 (N : Nat) (r : (Outbox × Bool)) (n : Nat) (s : AState) : Prop := ∃ (a1 : Int) (a2 : Int) (a3 : Int) (a4 : Str) (a5 : (List Str)), L30_0 N n a1 a2 a3 a4 a5 = some r ∧ s = ⟨envL [(0, .ptr (.O 0) 0), (2, .ptr (.O 1) 0), (3, .D (.I .i64 a1))], ownL [], ownL [some (.box [.D (.I .i64 0), .D (.I .i64 0), .D (.S ([] : Str)), .D (.L ([].map rS))]), some (.box [.D (.I .i64 a2), .D (.I .i64 a3), .D (.S a4), .D (.L (a5.map rS))])], 2⟩
def F30 (N : Nat) : Option (Outbox × Bool) := L30_0 N N 0 0 0 ([] : Str) []
theorem c30 (N : Nat) (r : (Outbox × Bool)) (h : F30 N = some r) : ACall Try.prog 30 [] [] (.tup [.agg [.D (.I .i64 r.1.Base), .D (.I .i64 r.1.Acked), .D (.S r.1.Summary), .D (.L (r.1.Queue.map rS))], .D (.B r.2)]) [] [] := by
  refine ACall.of_bodyW [] (fn := Try.f30) (rc := f30c) (rs := f30r) Try.func30 rfl rfl (by kernel_rfl) (by kernel_rfl) (by kernel_rfl) (by rw [Try.ntmps30]; simp) ?_
  unfold F30 at h
  unfold f30c f30r
  rw [entry_eq _ _]
  simp (config := { maxSteps := 1000000 }) (disch := first | assumption | (simp; done) | omega | (simp; omega)) only [push_cast, reduceCtorEq, Nat.reduceEqDiff, Nat.reduceAdd, Nat.reduceSub, Nat.reduceMul, Nat.reduceLeDiff, Nat.reduceLT, Int.reduceEq, Int.reduceNe, Int.reduceLT, Int.reduceLE, Int.reduceGT, Int.reduceGE, Int.reduceBEq, Int.reduceBNe, ↓reduceIte]
  refine loop_of (I30_0 N _) N [0, 2, 3] [0, 1] (by decide) ⟨0, 0, 0, ([] : Str), [], h, ?_⟩ ?_
  · rw [wk_mk]
    simp (config := { maxSteps := 1000000 }) (disch := first | assumption | (simp; done) | omega | (simp; omega)) only [push_cast, reduceCtorEq, Nat.reduceEqDiff, Nat.reduceAdd, Nat.reduceSub, Nat.reduceMul, Nat.reduceLeDiff, Nat.reduceLT, Int.reduceEq, Int.reduceNe, Int.reduceLT, Int.reduceLE, Int.reduceGT, Int.reduceGE, Int.reduceBEq, Int.reduceBNe, ↓reduceIte] <;> rfl
  · rintro n s ⟨a1, a2, a3, a4, a5, h, rfl⟩
    cases n with
    | zero => exact absurd h (by simp [L30_0])
    | succ m1 =>
      rw [L30_0] at h
      unfold f30b9
      rcases F_if h with ⟨h116, h⟩ | ⟨h116, h⟩
      · try simp (disch := first | assumption | (simp; done) | omega | (simp; omega)) only [push_cast, reduceCtorEq, Nat.reduceEqDiff, Nat.reduceAdd, Nat.reduceSub, Nat.reduceMul, Nat.reduceLeDiff, Nat.reduceLT, Int.reduceEq, Int.reduceNe, Int.reduceLT, Int.reduceLE, Int.reduceGT, Int.reduceGE, Int.reduceBEq, Int.reduceBNe, ↓reduceIte] at h116
        obtain ⟨h117, h⟩ := F_ck h
        try simp (disch := first | assumption | (simp; done) | omega | (simp; omega)) only [push_cast, reduceCtorEq, Nat.reduceEqDiff, Nat.reduceAdd, Nat.reduceSub, Nat.reduceMul, Nat.reduceLeDiff, Nat.reduceLT, Int.reduceEq, Int.reduceNe, Int.reduceLT, Int.reduceLE, Int.reduceGT, Int.reduceGE, Int.reduceBEq, Int.reduceBNe, ↓reduceIte] at h117
        obtain ⟨v6, h118, h⟩ := F_bd h
        simp (config := { maxSteps := 1000000 }) (disch := first | assumption | (simp; done) | omega | (simp; omega)) only [push_cast, reduceCtorEq, Nat.reduceEqDiff, Nat.reduceAdd, Nat.reduceSub, Nat.reduceMul, Nat.reduceLeDiff, Nat.reduceLT, Int.reduceEq, Int.reduceNe, Int.reduceLT, Int.reduceLE, Int.reduceGT, Int.reduceGE, Int.reduceBEq, Int.reduceBNe, ↓reduceIte, h116, h117]
        refine call_new (by rfl) (c10 N _ _ _ h118) ?_ rfl ?_
        · simp (config := { maxSteps := 1000000 }) (disch := first | assumption | (simp; done) | omega | (simp; omega)) only [push_cast, reduceCtorEq, Nat.reduceEqDiff, Nat.reduceAdd, Nat.reduceSub, Nat.reduceMul, Nat.reduceLeDiff, Nat.reduceLT, Int.reduceEq, Int.reduceNe, Int.reduceLT, Int.reduceLE, Int.reduceGT, Int.reduceGE, Int.reduceBEq, Int.reduceBNe, ↓reduceIte, h116, h117] <;> rfl
        rcases F_if h with ⟨h119, h⟩ | ⟨h119, h⟩
        · try simp (disch := first | assumption | (simp; done) | omega | (simp; omega)) only [push_cast, reduceCtorEq, Nat.reduceEqDiff, Nat.reduceAdd, Nat.reduceSub, Nat.reduceMul, Nat.reduceLeDiff, Nat.reduceLT, Int.reduceEq, Int.reduceNe, Int.reduceLT, Int.reduceLE, Int.reduceGT, Int.reduceGE, Int.reduceBEq, Int.reduceBNe, ↓reduceIte] at h119
          obtain rfl := Option.some.inj h
          simp (config := { maxSteps := 1000000 }) (disch := first | assumption | (simp; done) | omega | (simp; omega)) only [push_cast, reduceCtorEq, Nat.reduceEqDiff, Nat.reduceAdd, Nat.reduceSub, Nat.reduceMul, Nat.reduceLeDiff, Nat.reduceLT, Int.reduceEq, Int.reduceNe, Int.reduceLT, Int.reduceLE, Int.reduceGT, Int.reduceGE, Int.reduceBEq, Int.reduceBNe, ↓reduceIte, h116, h117, h119]
          refine e_ret (.inr rfl) ?_
          simp (config := { maxSteps := 1000000 }) (disch := first | assumption | (simp; done) | omega | (simp; omega)) only [push_cast, reduceCtorEq, Nat.reduceEqDiff, Nat.reduceAdd, Nat.reduceSub, Nat.reduceMul, Nat.reduceLeDiff, Nat.reduceLT, Int.reduceEq, Int.reduceNe, Int.reduceLT, Int.reduceLE, Int.reduceGT, Int.reduceGE, Int.reduceBEq, Int.reduceBNe, ↓reduceIte, aret, aresults, aresult, h116, h117, h119]
          refine ⟨_, rfl, ?_⟩
          first | (simp (config := { maxSteps := 1000000 }) (disch := first | assumption | (simp; done) | omega | (simp; omega)) only [push_cast, reduceCtorEq, Nat.reduceEqDiff, Nat.reduceAdd, Nat.reduceSub, Nat.reduceMul, Nat.reduceLeDiff, Nat.reduceLT, Int.reduceEq, Int.reduceNe, Int.reduceLT, Int.reduceLE, Int.reduceGT, Int.reduceGE, Int.reduceBEq, Int.reduceBNe, ↓reduceIte, h116, h117, h119] <;> rfl) | rfl
        · try simp (disch := first | assumption | (simp; done) | omega | (simp; omega)) only [push_cast, reduceCtorEq, Nat.reduceEqDiff, Nat.reduceAdd, Nat.reduceSub, Nat.reduceMul, Nat.reduceLeDiff, Nat.reduceLT, Int.reduceEq, Int.reduceNe, Int.reduceLT, Int.reduceLE, Int.reduceGT, Int.reduceGE, Int.reduceBEq, Int.reduceBNe, ↓reduceIte] at h119
          obtain ⟨h120, h⟩ := F_ck h
          try simp (disch := first | assumption | (simp; done) | omega | (simp; omega)) only [push_cast, reduceCtorEq, Nat.reduceEqDiff, Nat.reduceAdd, Nat.reduceSub, Nat.reduceMul, Nat.reduceLeDiff, Nat.reduceLT, Int.reduceEq, Int.reduceNe, Int.reduceLT, Int.reduceLE, Int.reduceGT, Int.reduceGE, Int.reduceBEq, Int.reduceBNe, ↓reduceIte] at h120
          simp (config := { maxSteps := 1000000 }) (disch := first | assumption | (simp; done) | omega | (simp; omega)) only [push_cast, reduceCtorEq, Nat.reduceEqDiff, Nat.reduceAdd, Nat.reduceSub, Nat.reduceMul, Nat.reduceLeDiff, Nat.reduceLT, Int.reduceEq, Int.reduceNe, Int.reduceLT, Int.reduceLE, Int.reduceGT, Int.reduceGE, Int.reduceBEq, Int.reduceBNe, ↓reduceIte, h116, h117, h119, h120]
          refine lpK_of m1 [0, 2, 3] [0, 1] (by omega) (by decide) ⟨(a1 + 1), v6.1.Base, v6.1.Acked, v6.1.Summary, v6.1.Queue, h, ?_⟩
          rw [wk_mk]
          simp (config := { maxSteps := 1000000 }) (disch := first | assumption | (simp; done) | omega | (simp; omega)) only [push_cast, reduceCtorEq, Nat.reduceEqDiff, Nat.reduceAdd, Nat.reduceSub, Nat.reduceMul, Nat.reduceLeDiff, Nat.reduceLT, Int.reduceEq, Int.reduceNe, Int.reduceLT, Int.reduceLE, Int.reduceGT, Int.reduceGE, Int.reduceBEq, Int.reduceBNe, ↓reduceIte, h116, h117, h119, h120] <;> rfl
      · try simp (disch := first | assumption | (simp; done) | omega | (simp; omega)) only [push_cast, reduceCtorEq, Nat.reduceEqDiff, Nat.reduceAdd, Nat.reduceSub, Nat.reduceMul, Nat.reduceLeDiff, Nat.reduceLT, Int.reduceEq, Int.reduceNe, Int.reduceLT, Int.reduceLE, Int.reduceGT, Int.reduceGE, Int.reduceBEq, Int.reduceBNe, ↓reduceIte] at h116
        obtain rfl := Option.some.inj h
        simp (config := { maxSteps := 1000000 }) (disch := first | assumption | (simp; done) | omega | (simp; omega)) only [push_cast, reduceCtorEq, Nat.reduceEqDiff, Nat.reduceAdd, Nat.reduceSub, Nat.reduceMul, Nat.reduceLeDiff, Nat.reduceLT, Int.reduceEq, Int.reduceNe, Int.reduceLT, Int.reduceLE, Int.reduceGT, Int.reduceGE, Int.reduceBEq, Int.reduceBNe, ↓reduceIte, h116]
        refine e_ret (.inr rfl) ?_
        simp (config := { maxSteps := 1000000 }) (disch := first | assumption | (simp; done) | omega | (simp; omega)) only [push_cast, reduceCtorEq, Nat.reduceEqDiff, Nat.reduceAdd, Nat.reduceSub, Nat.reduceMul, Nat.reduceLeDiff, Nat.reduceLT, Int.reduceEq, Int.reduceNe, Int.reduceLT, Int.reduceLE, Int.reduceGT, Int.reduceGE, Int.reduceBEq, Int.reduceBNe, ↓reduceIte, aret, aresults, aresult, h116]
        refine ⟨_, rfl, ?_⟩
        first | (simp (config := { maxSteps := 1000000 }) (disch := first | assumption | (simp; done) | omega | (simp; omega)) only [push_cast, reduceCtorEq, Nat.reduceEqDiff, Nat.reduceAdd, Nat.reduceSub, Nat.reduceMul, Nat.reduceLeDiff, Nat.reduceLT, Int.reduceEq, Int.reduceNe, Int.reduceLT, Int.reduceLE, Int.reduceGT, Int.reduceGE, Int.reduceBEq, Int.reduceBNe, ↓reduceIte, h116] <;> rfl) | rfl

/-! ## 34 rivermark.link.frames -/
def f34g0 : List RO :=
  [⟨(.some 1), (.box (.tmp 0)), .none⟩,
   ⟨(.some 2), (.mv (.const .nilFunc)), .none⟩]
def f34g1 : List RO :=
  [⟨(.some 3), (.mkf 48 [(.tmp 1)]), .none⟩,
   ⟨(.some 2), (.mv (.tmp 3)), .none⟩]
def f34c : RCode := (.seq (.reg .false f34g0) (.seq (.reg .false f34g1) .ret))
def f34r : List RRes := [(.tmp 2)]
attribute [push_cast] f34g0 f34g1
def F34 (N : Nat) (p0 : Outbox) : Option Outbox := some (p0)
theorem c34 (N : Nat) (p0 : Outbox) (r : Outbox) (h : F34 N p0 = some r) : ACall Try.prog 34 [.agg [.D (.I .i64 p0.Base), .D (.I .i64 p0.Acked), .D (.S p0.Summary), .D (.L (p0.Queue.map rS))]] [] (.clo 48 [.ptr (.O 0) 0]) [] [.box [.D (.I .i64 r.Base), .D (.I .i64 r.Acked), .D (.S r.Summary), .D (.L (r.Queue.map rS))]] := by
  refine ACall.of_bodyW [] (fn := Try.f34) (rc := f34c) (rs := f34r) Try.func34 rfl rfl (by kernel_rfl) (by kernel_rfl) (by kernel_rfl) (by rw [Try.ntmps34]; simp) ?_
  unfold F34 at h
  unfold f34c f34r
  rw [entry_eq _ _]
  obtain rfl := Option.some.inj h
  simp (config := { maxSteps := 1000000 }) (disch := first | assumption | (simp; done) | omega | (simp; omega)) only [push_cast, reduceCtorEq, Nat.reduceEqDiff, Nat.reduceAdd, Nat.reduceSub, Nat.reduceMul, Nat.reduceLeDiff, Nat.reduceLT, Int.reduceEq, Int.reduceNe, Int.reduceLT, Int.reduceLE, Int.reduceGT, Int.reduceGE, Int.reduceBEq, Int.reduceBNe, ↓reduceIte]
  refine AEndW.of [0] (.inr rfl) (by decide) rfl ?_ rfl ?_
  · simp (config := { maxSteps := 1000000 }) (disch := first | assumption | (simp; done) | omega | (simp; omega)) only [push_cast, reduceCtorEq, Nat.reduceEqDiff, Nat.reduceAdd, Nat.reduceSub, Nat.reduceMul, Nat.reduceLeDiff, Nat.reduceLT, Int.reduceEq, Int.reduceNe, Int.reduceLT, Int.reduceLE, Int.reduceGT, Int.reduceGE, Int.reduceBEq, Int.reduceBNe, ↓reduceIte] <;> rfl
  · simp (config := { maxSteps := 1000000 }) (disch := first | assumption | (simp; done) | omega | (simp; omega)) only [push_cast, reduceCtorEq, Nat.reduceEqDiff, Nat.reduceAdd, Nat.reduceSub, Nat.reduceMul, Nat.reduceLeDiff, Nat.reduceLT, Int.reduceEq, Int.reduceNe, Int.reduceLT, Int.reduceLE, Int.reduceGT, Int.reduceGE, Int.reduceBEq, Int.reduceBNe, ↓reduceIte] <;> rfl

/-! ## 12 rivermark.link.Frames -/
def f12g0 : List RO :=
  [⟨(.some 2), (.box (.tmp 0)), .none⟩,
   ⟨(.some 3), (.box (.tmp 1)), .none⟩,
   ⟨(.some 4), (.mv (.const (.slice .none 0 0))), .none⟩,
   ⟨(.some 5), (.mv (.const (.int .i64 0))), .none⟩]
def f12g1 : List RO :=
  [⟨(.some 8), (.load (.some 4) (.tmp 2)), .none⟩,
   ⟨(.some 9), (.call (.func 18) [(.tmp 8)]), .none⟩,
   ⟨(.some 10), (.un .not (.tmp 9)), .none⟩,
   ⟨(.some 11), (.mv (.tmp 10)), .none⟩,
   ⟨(.some 12), (.load .none (.tmp 3)), (.some (11, .false))⟩,
   ⟨(.some 13), (.bin .lss (.tmp 12) (.const (.int .i64 0))), (.some (11, .false))⟩,
   ⟨(.some 14), (.pick (.tmp 11) (.const (.bool .true)) (.tmp 13)), .none⟩]
def f12g2 : List RO :=
  [⟨(.some 4), (.mv (.const (.slice .none 0 0))), .none⟩,
   ⟨(.some 5), (.mv (.const (.int .i64 1))), .none⟩]
def f12g3 : List RO :=
  [⟨(.some 6), (.new [(.fl [])]), .none⟩]
def f12g4 : List RO :=
  [⟨(.some 15), (.load (.some 4) (.tmp 2)), .none⟩,
   ⟨(.some 16), (.call (.func 34) [(.tmp 15)]), .none⟩]
def f12g6 : List RO :=
  [⟨(.some 7), (.new [(.D (.B .false)), (.D (.I .i64 0)), (.D (.S []))]), .none⟩,
   ⟨.none, (.store 3 (.tmp 7) (.tmp 17)), .none⟩]
def f12g7 : List RO :=
  [⟨(.some 18), (.load .none (.tmp 6)), .none⟩,
   ⟨(.some 19), (.len .false (.tmp 18)), .none⟩,
   ⟨(.some 20), (.load .none (.tmp 3)), .none⟩,
   ⟨(.some 21), (.bin .eql (.tmp 19) (.tmp 20)), .none⟩]
def f12g8 : List RO :=
  [⟨(.some 22), (.load .none (.tmp 6)), .none⟩,
   ⟨(.some 23), (.load (.some 3) (.tmp 7)), .none⟩,
   ⟨(.some 24), (.bslice 3 [(.tmp 23)]), .none⟩,
   ⟨(.some 25), (.appE 3 32 (.tmp 22) (.tmp 24)), .none⟩,
   ⟨.none, (.store 1 (.tmp 6) (.tmp 25)), .none⟩]
def f12k5a : RCode := (.reg .false f12g6)
def f12k5b : RCode := (.block 1 (.seq (.seq (.reg .false f12g7) (.cond (.tmp 21) (.exit 0) .skip)) (.reg .false f12g8)))
def f12g9 : List RO :=
  [⟨(.some 26), (.load .none (.tmp 6)), .none⟩,
   ⟨(.some 4), (.mv (.tmp 26)), .none⟩,
   ⟨(.some 5), (.mv (.const (.int .i64 0))), .none⟩]
def f12c (f12k5 : Code) : RCode := (.seq (.reg .false f12g0) (.seq (.seq (.reg .false f12g1) (.cond (.tmp 14) (.seq (.reg .false f12g2) .ret) .skip)) (.seq (.reg .false f12g3) (.seq (.seq (.reg .false f12g4) (.block 0 (.sem 27 f12k5))) (.seq (.reg .false f12g9) .ret)))))
def f12r : List RRes := [(.tmp 4), (.tmp 5)]
attribute [push_cast] f12g0 f12g1 f12g2 f12g3 f12g4 f12g6 f12g7 f12g8 f12g9
theorem f12k5a_ {P : Program} {Y : Yh} {Q : Exit → AState → Prop} {s : AState} : acode P Y f12k5a Q s = acode P Y (.reg .false f12g6) Q s := (rfl)
theorem f12k5b_ {P : Program} {Y : Yh} {Q : Exit → AState → Prop} {s : AState} : acode P Y f12k5b Q s = acode P Y (.block 1 (.seq (.seq (.reg .false f12g7) (.cond (.tmp 21) (.exit 0) .skip)) (.reg .false f12g8))) Q s := (rfl)
attribute [push_cast] f12k5a_ f12k5b_
def f48yg0 : List RO :=
  [⟨(.some 4), (.faddr 1 (.tmp 1)), .none⟩,
   ⟨(.some 5), (.load .none (.tmp 4)), .none⟩,
   ⟨(.some 6), (.faddr 0 (.tmp 1)), .none⟩,
   ⟨(.some 7), (.load .none (.tmp 6)), .none⟩,
   ⟨(.some 8), (.bin .lss (.tmp 5) (.tmp 7)), .none⟩,
   ⟨(.some 9), (.mv (.tmp 8)), .none⟩,
   ⟨(.some 10), (.mv (.tmp 0)), (.some (9, .true))⟩,
   ⟨(.some 11), (.faddr 0 (.tmp 1)), (.some (9, .true))⟩,
   ⟨(.some 12), (.load .none (.tmp 11)), (.some (9, .true))⟩,
   ⟨(.some 13), (.faddr 2 (.tmp 1)), (.some (9, .true))⟩,
   ⟨(.some 14), (.load .none (.tmp 13)), (.some (9, .true))⟩,
   ⟨(.some 15), (.build [(.D (.B .false)), (.D (.I .i64 0)), (.D (.S []))] [(0, (1, (.const (.bool .true)))), (1, (1, (.tmp 12))), (2, (1, (.tmp 14)))]), (.some (9, .true))⟩,
   ⟨(.some 16), (.callE (.tmp 10) [(.tmp 15)]), (.some (9, .true))⟩,
   ⟨(.some 17), (.un .not (.tmp 16)), (.some (9, .true))⟩,
   ⟨(.some 18), (.pick (.tmp 9) (.tmp 17) (.const (.bool .false))), .none⟩]
def f48yg1 : List RO :=
  [⟨(.some 19), (.faddr 1 (.tmp 1)), .none⟩,
   ⟨(.some 20), (.load .none (.tmp 19)), .none⟩,
   ⟨(.some 21), (.faddr 0 (.tmp 1)), .none⟩,
   ⟨(.some 22), (.load .none (.tmp 21)), .none⟩,
   ⟨(.some 23), (.mm .true (.tmp 20) (.tmp 22)), .none⟩,
   ⟨(.some 3), (.mv (.tmp 23)), .none⟩]
def f48yg2 : List RO :=
  [⟨(.some 24), (.mv (.tmp 3)), .none⟩,
   ⟨(.some 25), (.load (.some 4) (.tmp 1)), .none⟩,
   ⟨(.some 26), (.call (.func 32) [(.tmp 25)]), .none⟩,
   ⟨(.some 27), (.bin .lss (.tmp 24) (.tmp 26)), .none⟩]
def f48yg3 : List RO :=
  [⟨(.some 30), (.mv (.tmp 0)), .none⟩,
   ⟨(.some 31), (.mv (.tmp 3)), .none⟩,
   ⟨(.some 32), (.faddr 3 (.tmp 1)), .none⟩,
   ⟨(.some 33), (.load .none (.tmp 32)), .none⟩,
   ⟨(.some 34), (.mv (.tmp 3)), .none⟩,
   ⟨(.some 35), (.faddr 0 (.tmp 1)), .none⟩,
   ⟨(.some 36), (.load .none (.tmp 35)), .none⟩,
   ⟨(.some 37), (.bin .sub (.tmp 34) (.tmp 36)), .none⟩,
   ⟨(.some 38), (.iaddr 1 (.tmp 33) (.tmp 37)), .none⟩,
   ⟨(.some 39), (.load .none (.tmp 38)), .none⟩,
   ⟨(.some 40), (.build [(.D (.B .false)), (.D (.I .i64 0)), (.D (.S []))] [(1, (1, (.tmp 31))), (2, (1, (.tmp 39)))]), .none⟩,
   ⟨(.some 41), (.callE (.tmp 30) [(.tmp 40)]), .none⟩,
   ⟨(.some 42), (.un .not (.tmp 41)), .none⟩]
def f48yg4 : List RO :=
  [⟨(.some 28), (.mv (.tmp 3)), .none⟩,
   ⟨(.some 29), (.bin .add (.tmp 28) (.const (.int .i64 1))), .none⟩,
   ⟨(.some 3), (.mv (.tmp 29)), .none⟩]
def f48yb5 : RCode := (.seq (.seq (.regY f48yg2) (.cond (.tmp 27) .skip (.exit 0))) (.seq (.block 1 (.seq (.regY f48yg3) (.cond (.tmp 42) .ret .skip))) (.regY f48yg4)))
def f48yc : RCode := (.seq (.seq (.regY f48yg0) (.cond (.tmp 18) .ret .skip)) (.seq (.regY f48yg1) (.block 0 (.loop f48yb5))))
def f48yr : List RRes := []
attribute [push_cast] f48yg0 f48yg1 f48yg2 f48yg3 f48yg4
theorem f48yc_ {P : Program} {Y : Yh} {Q : Exit → AState → Prop} {s : AState} : acode P Y f48yc Q s = acode P Y (.seq (.seq (.regY f48yg0) (.cond (.tmp 18) .ret .skip)) (.seq (.regY f48yg1) (.block 0 (.loop f48yb5)))) Q s := (rfl)
attribute [push_cast] f48yc_
def L12_0 (N : Nat) (p1 : Int) (v2 : Outbox) : Nat → Int → (List Frame) → Option ((List Frame) × Int)
  | 0, _, _ => none
  | m1+1, a3, a4 => bd? (F32 N v2) fun v5 => if? (decide (a3 < v5)) (ck .i64 (a3 - v2.Base) (get? v2.Queue ((a3 - v2.Base)) fun x6 => if? (((a4.length : Int) == p1)) (some (a4, 0)) (gd? ((a4.length + [(Frame.mk false a3 x6)].length) * 32 ≤ 140737488355328) (ck .i64 (a3 + 1) (L12_0 N p1 v2 m1 (a3 + 1) (a4 ++ [(Frame.mk false a3 x6)])))))) (some (a4, 0))
def I12_0 (N : Nat) (p1 : Int) (v2 : Outbox) (y1 : Nat) (r : ((List Frame) × Int)) (n : Nat) (s : AState) : Prop := ∃ (a3 : Int) (a4 : (List Frame)), L12_0 N p1 v2 n a3 a4 = some r ∧ s = ⟨envL [(0, .yld y1), (1, .ptr (.O 2) 0), (3, .D (.I .i64 a3)), (4, .ptr (.O 2) 1), (5, .D (.I .i64 v2.Acked)), (43, .gst none), (47, .ptr (.O 0) 0), (50, .ptr (.O 1) 0), (60, .clo 48 [.ptr (.O 2) 0])], ownL [], ownL [some (.box [.D (.I .i64 p1)]), some (.box [.sl (.O 3) 3 0 a4.length]), some (.box [.D (.I .i64 v2.Base), .D (.I .i64 v2.Acked), .D (.S v2.Summary), .D (.L (v2.Queue.map rS))]), some (.row true 3 (a4.map Frame.row))], 4⟩
def F12 (N : Nat) (p0 : Outbox) (p1 : Int) : Option ((List Frame) × Int) := bd? (F18 N p0) fun v1 => if? (v1) (if? (decide (p1 < 0)) (some ([], 1)) (bd? (F34 N p0) fun v2 => if? (decide (v2.Acked < v2.Base)) (if? ((0 == p1)) (some ([], 0)) (L12_0 N p1 v2 N (max v2.Acked v2.Base) [(Frame.mk true v2.Base v2.Summary)])) (L12_0 N p1 v2 N (max v2.Acked v2.Base) []))) (some ([], 1))
theorem c12 (N : Nat) (p0 : Outbox) (p1 : Int) (r : ((List Frame) × Int)) (h : F12 N p0 p1 = some r) : ACall Try.prog 12 [.agg [.D (.I .i64 p0.Base), .D (.I .i64 p0.Acked), .D (.S p0.Summary), .D (.L (p0.Queue.map rS))], .D (.I .i64 p1)] [] (.tup [.sl (.O 0) 3 0 r.1.length, .D (.I .i64 r.2)]) [] [.row true 3 (r.1.map Frame.row)] := by
  obtain ⟨f12k5, hf12k5⟩ : ∃ k, k = subC [1, 1, 1, 0, 1, 0] (Try.f12.body.getD .skip) := ⟨_, rfl⟩
  refine ACall.of_bodyW [25] (fn := Try.f12) (rc := (f12c f12k5)) (rs := f12r) Try.func12 rfl rfl (by kernel_rfl) (by subst hf12k5; kernel_rfl) (by kernel_rfl) (by rw [Try.ntmps12]; simp) ?_
  unfold F12 at h
  unfold f12c f12r
  rw [entry_eq _ _]
  obtain ⟨v1, h147, h⟩ := F_bd h
  simp (config := { maxSteps := 1000000 }) (disch := first | assumption | (simp; done) | omega | (simp; omega)) only [push_cast, reduceCtorEq, Nat.reduceEqDiff, Nat.reduceAdd, Nat.reduceSub, Nat.reduceMul, Nat.reduceLeDiff, Nat.reduceLT, Int.reduceEq, Int.reduceNe, Int.reduceLT, Int.reduceLE, Int.reduceGT, Int.reduceGE, Int.reduceBEq, Int.reduceBNe, ↓reduceIte]
  refine call_flat (by rfl) (c18 N _ _ h147) ?_ rfl ?_
  · simp (config := { maxSteps := 1000000 }) (disch := first | assumption | (simp; done) | omega | (simp; omega)) only [push_cast, reduceCtorEq, Nat.reduceEqDiff, Nat.reduceAdd, Nat.reduceSub, Nat.reduceMul, Nat.reduceLeDiff, Nat.reduceLT, Int.reduceEq, Int.reduceNe, Int.reduceLT, Int.reduceLE, Int.reduceGT, Int.reduceGE, Int.reduceBEq, Int.reduceBNe, ↓reduceIte] <;> rfl
  rcases F_if h with ⟨h148, h⟩ | ⟨h148, h⟩
  · try simp (disch := first | assumption | (simp; done) | omega | (simp; omega)) only [push_cast, reduceCtorEq, Nat.reduceEqDiff, Nat.reduceAdd, Nat.reduceSub, Nat.reduceMul, Nat.reduceLeDiff, Nat.reduceLT, Int.reduceEq, Int.reduceNe, Int.reduceLT, Int.reduceLE, Int.reduceGT, Int.reduceGE, Int.reduceBEq, Int.reduceBNe, ↓reduceIte] at h148
    rcases F_if h with ⟨h149, h⟩ | ⟨h149, h⟩
    · try simp (disch := first | assumption | (simp; done) | omega | (simp; omega)) only [push_cast, reduceCtorEq, Nat.reduceEqDiff, Nat.reduceAdd, Nat.reduceSub, Nat.reduceMul, Nat.reduceLeDiff, Nat.reduceLT, Int.reduceEq, Int.reduceNe, Int.reduceLT, Int.reduceLE, Int.reduceGT, Int.reduceGE, Int.reduceBEq, Int.reduceBNe, ↓reduceIte] at h149
      obtain rfl := Option.some.inj h
      simp (config := { maxSteps := 1000000 }) (disch := first | assumption | (simp; done) | omega | (simp; omega)) only [push_cast, reduceCtorEq, Nat.reduceEqDiff, Nat.reduceAdd, Nat.reduceSub, Nat.reduceMul, Nat.reduceLeDiff, Nat.reduceLT, Int.reduceEq, Int.reduceNe, Int.reduceLT, Int.reduceLE, Int.reduceGT, Int.reduceGE, Int.reduceBEq, Int.reduceBNe, ↓reduceIte, h148, h149]
      refine end_own0 4 3 rfl ?_
      simp (config := { maxSteps := 1000000 }) (disch := first | assumption | (simp; done) | omega | (simp; omega)) only [push_cast, reduceCtorEq, Nat.reduceEqDiff, Nat.reduceAdd, Nat.reduceSub, Nat.reduceMul, Nat.reduceLeDiff, Nat.reduceLT, Int.reduceEq, Int.reduceNe, Int.reduceLT, Int.reduceLE, Int.reduceGT, Int.reduceGE, Int.reduceBEq, Int.reduceBNe, ↓reduceIte, h148, h149]
      refine AEndW.of [2] (.inr rfl) (by decide) rfl ?_ rfl ?_
      · simp (config := { maxSteps := 1000000 }) (disch := first | assumption | (simp; done) | omega | (simp; omega)) only [push_cast, reduceCtorEq, Nat.reduceEqDiff, Nat.reduceAdd, Nat.reduceSub, Nat.reduceMul, Nat.reduceLeDiff, Nat.reduceLT, Int.reduceEq, Int.reduceNe, Int.reduceLT, Int.reduceLE, Int.reduceGT, Int.reduceGE, Int.reduceBEq, Int.reduceBNe, ↓reduceIte, h148, h149] <;> rfl
      · simp (config := { maxSteps := 1000000 }) (disch := first | assumption | (simp; done) | omega | (simp; omega)) only [push_cast, reduceCtorEq, Nat.reduceEqDiff, Nat.reduceAdd, Nat.reduceSub, Nat.reduceMul, Nat.reduceLeDiff, Nat.reduceLT, Int.reduceEq, Int.reduceNe, Int.reduceLT, Int.reduceLE, Int.reduceGT, Int.reduceGE, Int.reduceBEq, Int.reduceBNe, ↓reduceIte, h148, h149] <;> rfl
    · try simp (disch := first | assumption | (simp; done) | omega | (simp; omega)) only [push_cast, reduceCtorEq, Nat.reduceEqDiff, Nat.reduceAdd, Nat.reduceSub, Nat.reduceMul, Nat.reduceLeDiff, Nat.reduceLT, Int.reduceEq, Int.reduceNe, Int.reduceLT, Int.reduceLE, Int.reduceGT, Int.reduceGE, Int.reduceBEq, Int.reduceBNe, ↓reduceIte] at h149
      obtain ⟨v2, h150, h⟩ := F_bd h
      simp (config := { maxSteps := 1000000 }) (disch := first | assumption | (simp; done) | omega | (simp; omega)) only [push_cast, reduceCtorEq, Nat.reduceEqDiff, Nat.reduceAdd, Nat.reduceSub, Nat.reduceMul, Nat.reduceLeDiff, Nat.reduceLT, Int.reduceEq, Int.reduceNe, Int.reduceLT, Int.reduceLE, Int.reduceGT, Int.reduceGE, Int.reduceBEq, Int.reduceBNe, ↓reduceIte, h148, h149]
      refine call_new (by rfl) (c34 N _ _ h150) ?_ rfl ?_
      · simp (config := { maxSteps := 1000000 }) (disch := first | assumption | (simp; done) | omega | (simp; omega)) only [push_cast, reduceCtorEq, Nat.reduceEqDiff, Nat.reduceAdd, Nat.reduceSub, Nat.reduceMul, Nat.reduceLeDiff, Nat.reduceLT, Int.reduceEq, Int.reduceNe, Int.reduceLT, Int.reduceLE, Int.reduceGT, Int.reduceGE, Int.reduceBEq, Int.reduceBNe, ↓reduceIte, h148, h149] <;> rfl
      try simp (config := { maxSteps := 1000000 }) (disch := first | assumption | (simp; done) | omega | (simp; omega)) only [push_cast, reduceCtorEq, Nat.reduceEqDiff, Nat.reduceAdd, Nat.reduceSub, Nat.reduceMul, Nat.reduceLeDiff, Nat.reduceLT, Int.reduceEq, Int.reduceNe, Int.reduceLT, Int.reduceLE, Int.reduceGT, Int.reduceGE, Int.reduceBEq, Int.reduceBNe, ↓reduceIte, h148, h149]
      refine range_of [16, 41, 1000000] [25] (c := f12k5) (g := (.tmp 16)) (ps := [17]) (f := 48) (fn := Try.f48) (N2 := 43) (rc2 := f48yc) (rcA := f12k5a) (rcB := f12k5b) (caps := [.ptr (.O 3) 0]) (by subst hf12k5; kernel_rfl) Try.func48 rfl (by kernel_rfl) (by kernel_rfl) Try.ntmps48 (by kernel_rfl) (by subst hf12k5; kernel_rfl) (by subst hf12k5; kernel_rfl) (by kernel_rfl) (by decide) rfl (by rfl) (by decide) ?_
      intro y1
      rcases F_if h with ⟨h151, h⟩ | ⟨h151, h⟩
      · try simp (disch := first | assumption | (simp; done) | omega | (simp; omega)) only [push_cast, reduceCtorEq, Nat.reduceEqDiff, Nat.reduceAdd, Nat.reduceSub, Nat.reduceMul, Nat.reduceLeDiff, Nat.reduceLT, Int.reduceEq, Int.reduceNe, Int.reduceLT, Int.reduceLE, Int.reduceGT, Int.reduceGE, Int.reduceBEq, Int.reduceBNe, ↓reduceIte] at h151
        try simp (config := { maxSteps := 1000000 }) (disch := first | assumption | (simp; done) | omega | (simp; omega)) only [push_cast, reduceCtorEq, Nat.reduceEqDiff, Nat.reduceAdd, Nat.reduceSub, Nat.reduceMul, Nat.reduceLeDiff, Nat.reduceLT, Int.reduceEq, Int.reduceNe, Int.reduceLT, Int.reduceLE, Int.reduceGT, Int.reduceGE, Int.reduceBEq, Int.reduceBNe, ↓reduceIte, h148, h149, h151]
        rw [oY_G y1 (by rfl)]
        rcases F_if h with ⟨h152, h⟩ | ⟨h152, h⟩
        · try simp (disch := first | assumption | (simp; done) | omega | (simp; omega)) only [push_cast, reduceCtorEq, Nat.reduceEqDiff, Nat.reduceAdd, Nat.reduceSub, Nat.reduceMul, Nat.reduceLeDiff, Nat.reduceLT, Int.reduceEq, Int.reduceNe, Int.reduceLT, Int.reduceLE, Int.reduceGT, Int.reduceGE, Int.reduceBEq, Int.reduceBNe, ↓reduceIte] at h152
          obtain rfl := Option.some.inj h
          simp (config := { maxSteps := 1000000 }) (disch := first | assumption | (simp; done) | omega | (simp; omega)) only [push_cast, reduceCtorEq, Nat.reduceEqDiff, Nat.reduceAdd, Nat.reduceSub, Nat.reduceMul, Nat.reduceLeDiff, Nat.reduceLT, Int.reduceEq, Int.reduceNe, Int.reduceLT, Int.reduceLE, Int.reduceGT, Int.reduceGE, Int.reduceBEq, Int.reduceBNe, ↓reduceIte, h148, h149, h151, h152]
          refine end_own0 4 3 rfl ?_
          simp (config := { maxSteps := 1000000 }) (disch := first | assumption | (simp; done) | omega | (simp; omega)) only [push_cast, reduceCtorEq, Nat.reduceEqDiff, Nat.reduceAdd, Nat.reduceSub, Nat.reduceMul, Nat.reduceLeDiff, Nat.reduceLT, Int.reduceEq, Int.reduceNe, Int.reduceLT, Int.reduceLE, Int.reduceGT, Int.reduceGE, Int.reduceBEq, Int.reduceBNe, ↓reduceIte, h148, h149, h151, h152]
          refine AEndW.of [5] (.inr rfl) (by decide) rfl ?_ rfl ?_
          · simp (config := { maxSteps := 1000000 }) (disch := first | assumption | (simp; done) | omega | (simp; omega)) only [push_cast, reduceCtorEq, Nat.reduceEqDiff, Nat.reduceAdd, Nat.reduceSub, Nat.reduceMul, Nat.reduceLeDiff, Nat.reduceLT, Int.reduceEq, Int.reduceNe, Int.reduceLT, Int.reduceLE, Int.reduceGT, Int.reduceGE, Int.reduceBEq, Int.reduceBNe, ↓reduceIte, h148, h149, h151, h152] <;> rfl
          · simp (config := { maxSteps := 1000000 }) (disch := first | assumption | (simp; done) | omega | (simp; omega)) only [push_cast, reduceCtorEq, Nat.reduceEqDiff, Nat.reduceAdd, Nat.reduceSub, Nat.reduceMul, Nat.reduceLeDiff, Nat.reduceLT, Int.reduceEq, Int.reduceNe, Int.reduceLT, Int.reduceLE, Int.reduceGT, Int.reduceGE, Int.reduceBEq, Int.reduceBNe, ↓reduceIte, h148, h149, h151, h152] <;> rfl
        · try simp (disch := first | assumption | (simp; done) | omega | (simp; omega)) only [push_cast, reduceCtorEq, Nat.reduceEqDiff, Nat.reduceAdd, Nat.reduceSub, Nat.reduceMul, Nat.reduceLeDiff, Nat.reduceLT, Int.reduceEq, Int.reduceNe, Int.reduceLT, Int.reduceLE, Int.reduceGT, Int.reduceGE, Int.reduceBEq, Int.reduceBNe, ↓reduceIte] at h152
          simp (config := { maxSteps := 1000000 }) (disch := first | assumption | (simp; done) | omega | (simp; omega)) only [push_cast, reduceCtorEq, Nat.reduceEqDiff, Nat.reduceAdd, Nat.reduceSub, Nat.reduceMul, Nat.reduceLeDiff, Nat.reduceLT, Int.reduceEq, Int.reduceNe, Int.reduceLT, Int.reduceLE, Int.reduceGT, Int.reduceGE, Int.reduceBEq, Int.reduceBNe, ↓reduceIte, h148, h149, h151, h152]
          refine loop_of (I12_0 N p1 v2 y1 _) N [0, 1, 3, 4, 5, 43, 47, 50, 60] [1, 2, 3, 6] (by decide) ⟨(max v2.Acked v2.Base), [(Frame.mk true v2.Base v2.Summary)], h, ?_⟩ ?_
          · rw [wk_mk]
            simp (config := { maxSteps := 1000000 }) (disch := first | assumption | (simp; done) | omega | (simp; omega)) only [push_cast, reduceCtorEq, Nat.reduceEqDiff, Nat.reduceAdd, Nat.reduceSub, Nat.reduceMul, Nat.reduceLeDiff, Nat.reduceLT, Int.reduceEq, Int.reduceNe, Int.reduceLT, Int.reduceLE, Int.reduceGT, Int.reduceGE, Int.reduceBEq, Int.reduceBNe, ↓reduceIte, h148, h149, h151, h152] <;> rfl
          · rintro n s ⟨a3, a4, h, rfl⟩
            cases n with
            | zero => exact absurd h (by simp [L12_0])
            | succ m1 =>
              rw [L12_0] at h
              unfold f48yb5
              obtain ⟨v5, h153, h⟩ := F_bd h
              simp (config := { maxSteps := 1000000 }) (disch := first | assumption | (simp; done) | omega | (simp; omega)) only [push_cast, reduceCtorEq, Nat.reduceEqDiff, Nat.reduceAdd, Nat.reduceSub, Nat.reduceMul, Nat.reduceLeDiff, Nat.reduceLT, Int.reduceEq, Int.reduceNe, Int.reduceLT, Int.reduceLE, Int.reduceGT, Int.reduceGE, Int.reduceBEq, Int.reduceBNe, ↓reduceIte, h148, h149, h151, h152]
              refine call_flat (by rfl) (c32 N _ _ h153) ?_ rfl ?_
              · simp (config := { maxSteps := 1000000 }) (disch := first | assumption | (simp; done) | omega | (simp; omega)) only [push_cast, reduceCtorEq, Nat.reduceEqDiff, Nat.reduceAdd, Nat.reduceSub, Nat.reduceMul, Nat.reduceLeDiff, Nat.reduceLT, Int.reduceEq, Int.reduceNe, Int.reduceLT, Int.reduceLE, Int.reduceGT, Int.reduceGE, Int.reduceBEq, Int.reduceBNe, ↓reduceIte, h148, h149, h151, h152] <;> rfl
              rcases F_if h with ⟨h154, h⟩ | ⟨h154, h⟩
              · try simp (disch := first | assumption | (simp; done) | omega | (simp; omega)) only [push_cast, reduceCtorEq, Nat.reduceEqDiff, Nat.reduceAdd, Nat.reduceSub, Nat.reduceMul, Nat.reduceLeDiff, Nat.reduceLT, Int.reduceEq, Int.reduceNe, Int.reduceLT, Int.reduceLE, Int.reduceGT, Int.reduceGE, Int.reduceBEq, Int.reduceBNe, ↓reduceIte] at h154
                obtain ⟨h155, h⟩ := F_ck h
                try simp (disch := first | assumption | (simp; done) | omega | (simp; omega)) only [push_cast, reduceCtorEq, Nat.reduceEqDiff, Nat.reduceAdd, Nat.reduceSub, Nat.reduceMul, Nat.reduceLeDiff, Nat.reduceLT, Int.reduceEq, Int.reduceNe, Int.reduceLT, Int.reduceLE, Int.reduceGT, Int.reduceGE, Int.reduceBEq, Int.reduceBNe, ↓reduceIte] at h155
                obtain ⟨x6, h156, h157, h⟩ := F_get h
                have h159 := get_lt h156 h157
                have h158 := map_get rS h157
                try simp (disch := first | assumption | (simp; done) | omega | (simp; omega)) only [push_cast, reduceCtorEq, Nat.reduceEqDiff, Nat.reduceAdd, Nat.reduceSub, Nat.reduceMul, Nat.reduceLeDiff, Nat.reduceLT, Int.reduceEq, Int.reduceNe, Int.reduceLT, Int.reduceLE, Int.reduceGT, Int.reduceGE, Int.reduceBEq, Int.reduceBNe, ↓reduceIte] at h158
                try simp (disch := first | assumption | (simp; done) | omega | (simp; omega)) only [push_cast, reduceCtorEq, Nat.reduceEqDiff, Nat.reduceAdd, Nat.reduceSub, Nat.reduceMul, Nat.reduceLeDiff, Nat.reduceLT, Int.reduceEq, Int.reduceNe, Int.reduceLT, Int.reduceLE, Int.reduceGT, Int.reduceGE, Int.reduceBEq, Int.reduceBNe, ↓reduceIte] at h159
                rcases F_if h with ⟨h160, h⟩ | ⟨h160, h⟩
                · try simp (disch := first | assumption | (simp; done) | omega | (simp; omega)) only [push_cast, reduceCtorEq, Nat.reduceEqDiff, Nat.reduceAdd, Nat.reduceSub, Nat.reduceMul, Nat.reduceLeDiff, Nat.reduceLT, Int.reduceEq, Int.reduceNe, Int.reduceLT, Int.reduceLE, Int.reduceGT, Int.reduceGE, Int.reduceBEq, Int.reduceBNe, ↓reduceIte] at h160
                  obtain rfl := Option.some.inj h
                  simp (config := { maxSteps := 1000000 }) (disch := first | assumption | (simp; done) | omega | (simp; omega)) only [push_cast, reduceCtorEq, Nat.reduceEqDiff, Nat.reduceAdd, Nat.reduceSub, Nat.reduceMul, Nat.reduceLeDiff, Nat.reduceLT, Int.reduceEq, Int.reduceNe, Int.reduceLT, Int.reduceLE, Int.reduceGT, Int.reduceGE, Int.reduceBEq, Int.reduceBNe, ↓reduceIte, h148, h149, h151, h152, h154, h155, h156, h158, h159, h160]
                  refine AEndW.of [3] (.inr rfl) (by decide) rfl ?_ rfl ?_
                  · simp (config := { maxSteps := 1000000 }) (disch := first | assumption | (simp; done) | omega | (simp; omega)) only [push_cast, reduceCtorEq, Nat.reduceEqDiff, Nat.reduceAdd, Nat.reduceSub, Nat.reduceMul, Nat.reduceLeDiff, Nat.reduceLT, Int.reduceEq, Int.reduceNe, Int.reduceLT, Int.reduceLE, Int.reduceGT, Int.reduceGE, Int.reduceBEq, Int.reduceBNe, ↓reduceIte, h148, h149, h151, h152, h154, h155, h156, h158, h159, h160] <;> rfl
                  · simp (config := { maxSteps := 1000000 }) (disch := first | assumption | (simp; done) | omega | (simp; omega)) only [push_cast, reduceCtorEq, Nat.reduceEqDiff, Nat.reduceAdd, Nat.reduceSub, Nat.reduceMul, Nat.reduceLeDiff, Nat.reduceLT, Int.reduceEq, Int.reduceNe, Int.reduceLT, Int.reduceLE, Int.reduceGT, Int.reduceGE, Int.reduceBEq, Int.reduceBNe, ↓reduceIte, h148, h149, h151, h152, h154, h155, h156, h158, h159, h160] <;> rfl
                · try simp (disch := first | assumption | (simp; done) | omega | (simp; omega)) only [push_cast, reduceCtorEq, Nat.reduceEqDiff, Nat.reduceAdd, Nat.reduceSub, Nat.reduceMul, Nat.reduceLeDiff, Nat.reduceLT, Int.reduceEq, Int.reduceNe, Int.reduceLT, Int.reduceLE, Int.reduceGT, Int.reduceGE, Int.reduceBEq, Int.reduceBNe, ↓reduceIte] at h160
                  obtain ⟨h161, h⟩ := F_gd h
                  try simp (disch := first | assumption | (simp; done) | omega | (simp; omega)) only [push_cast, reduceCtorEq, Nat.reduceEqDiff, Nat.reduceAdd, Nat.reduceSub, Nat.reduceMul, Nat.reduceLeDiff, Nat.reduceLT, Int.reduceEq, Int.reduceNe, Int.reduceLT, Int.reduceLE, Int.reduceGT, Int.reduceGE, Int.reduceBEq, Int.reduceBNe, ↓reduceIte] at h161
                  obtain ⟨h162, h⟩ := F_ck h
                  try simp (disch := first | assumption | (simp; done) | omega | (simp; omega)) only [push_cast, reduceCtorEq, Nat.reduceEqDiff, Nat.reduceAdd, Nat.reduceSub, Nat.reduceMul, Nat.reduceLeDiff, Nat.reduceLT, Int.reduceEq, Int.reduceNe, Int.reduceLT, Int.reduceLE, Int.reduceGT, Int.reduceGE, Int.reduceBEq, Int.reduceBNe, ↓reduceIte] at h162
                  simp (config := { maxSteps := 1000000 }) (disch := first | assumption | (simp; done) | omega | (simp; omega)) only [push_cast, reduceCtorEq, Nat.reduceEqDiff, Nat.reduceAdd, Nat.reduceSub, Nat.reduceMul, Nat.reduceLeDiff, Nat.reduceLT, Int.reduceEq, Int.reduceNe, Int.reduceLT, Int.reduceLE, Int.reduceGT, Int.reduceGE, Int.reduceBEq, Int.reduceBNe, ↓reduceIte, h148, h149, h151, h152, h154, h155, h156, h158, h159, h160, h161, h162]
                  refine lpK_of m1 [0, 1, 3, 4, 5, 43, 47, 50, 60] [0, 1, 2, 6] (by omega) (by decide) ⟨(a3 + 1), (a4 ++ [(Frame.mk false a3 x6)]), h, ?_⟩
                  rw [wk_mk]
                  simp (config := { maxSteps := 1000000 }) (disch := first | assumption | (simp; done) | omega | (simp; omega)) only [push_cast, reduceCtorEq, Nat.reduceEqDiff, Nat.reduceAdd, Nat.reduceSub, Nat.reduceMul, Nat.reduceLeDiff, Nat.reduceLT, Int.reduceEq, Int.reduceNe, Int.reduceLT, Int.reduceLE, Int.reduceGT, Int.reduceGE, Int.reduceBEq, Int.reduceBNe, ↓reduceIte, h148, h149, h151, h152, h154, h155, h156, h158, h159, h160, h161, h162] <;> rfl
              · try simp (disch := first | assumption | (simp; done) | omega | (simp; omega)) only [push_cast, reduceCtorEq, Nat.reduceEqDiff, Nat.reduceAdd, Nat.reduceSub, Nat.reduceMul, Nat.reduceLeDiff, Nat.reduceLT, Int.reduceEq, Int.reduceNe, Int.reduceLT, Int.reduceLE, Int.reduceGT, Int.reduceGE, Int.reduceBEq, Int.reduceBNe, ↓reduceIte] at h154
                obtain rfl := Option.some.inj h
                simp (config := { maxSteps := 1000000 }) (disch := first | assumption | (simp; done) | omega | (simp; omega)) only [push_cast, reduceCtorEq, Nat.reduceEqDiff, Nat.reduceAdd, Nat.reduceSub, Nat.reduceMul, Nat.reduceLeDiff, Nat.reduceLT, Int.reduceEq, Int.reduceNe, Int.reduceLT, Int.reduceLE, Int.reduceGT, Int.reduceGE, Int.reduceBEq, Int.reduceBNe, ↓reduceIte, h148, h149, h151, h152, h154]
                refine AEndW.of [3] (.inr rfl) (by decide) rfl ?_ rfl ?_
                · simp (config := { maxSteps := 1000000 }) (disch := first | assumption | (simp; done) | omega | (simp; omega)) only [push_cast, reduceCtorEq, Nat.reduceEqDiff, Nat.reduceAdd, Nat.reduceSub, Nat.reduceMul, Nat.reduceLeDiff, Nat.reduceLT, Int.reduceEq, Int.reduceNe, Int.reduceLT, Int.reduceLE, Int.reduceGT, Int.reduceGE, Int.reduceBEq, Int.reduceBNe, ↓reduceIte, h148, h149, h151, h152, h154] <;> rfl
                · simp (config := { maxSteps := 1000000 }) (disch := first | assumption | (simp; done) | omega | (simp; omega)) only [push_cast, reduceCtorEq, Nat.reduceEqDiff, Nat.reduceAdd, Nat.reduceSub, Nat.reduceMul, Nat.reduceLeDiff, Nat.reduceLT, Int.reduceEq, Int.reduceNe, Int.reduceLT, Int.reduceLE, Int.reduceGT, Int.reduceGE, Int.reduceBEq, Int.reduceBNe, ↓reduceIte, h148, h149, h151, h152, h154] <;> rfl
      · try simp (disch := first | assumption | (simp; done) | omega | (simp; omega)) only [push_cast, reduceCtorEq, Nat.reduceEqDiff, Nat.reduceAdd, Nat.reduceSub, Nat.reduceMul, Nat.reduceLeDiff, Nat.reduceLT, Int.reduceEq, Int.reduceNe, Int.reduceLT, Int.reduceLE, Int.reduceGT, Int.reduceGE, Int.reduceBEq, Int.reduceBNe, ↓reduceIte] at h151
        try simp (config := { maxSteps := 1000000 }) (disch := first | assumption | (simp; done) | omega | (simp; omega)) only [push_cast, reduceCtorEq, Nat.reduceEqDiff, Nat.reduceAdd, Nat.reduceSub, Nat.reduceMul, Nat.reduceLeDiff, Nat.reduceLT, Int.reduceEq, Int.reduceNe, Int.reduceLT, Int.reduceLE, Int.reduceGT, Int.reduceGE, Int.reduceBEq, Int.reduceBNe, ↓reduceIte, h148, h149, h151]
        rw [oY_N (by rfl)]
        simp (config := { maxSteps := 1000000 }) (disch := first | assumption | (simp; done) | omega | (simp; omega)) only [push_cast, reduceCtorEq, Nat.reduceEqDiff, Nat.reduceAdd, Nat.reduceSub, Nat.reduceMul, Nat.reduceLeDiff, Nat.reduceLT, Int.reduceEq, Int.reduceNe, Int.reduceLT, Int.reduceLE, Int.reduceGT, Int.reduceGE, Int.reduceBEq, Int.reduceBNe, ↓reduceIte, h148, h149, h151]
        refine loop_ownB (.O 2) [.fl []] 0 3 (by rfl) (by rfl) ?_
        simp (config := { maxSteps := 1000000 }) (disch := first | assumption | (simp; done) | omega | (simp; omega)) only [push_cast, reduceCtorEq, Nat.reduceEqDiff, Nat.reduceAdd, Nat.reduceSub, Nat.reduceMul, Nat.reduceLeDiff, Nat.reduceLT, Int.reduceEq, Int.reduceNe, Int.reduceLT, Int.reduceLE, Int.reduceGT, Int.reduceGE, Int.reduceBEq, Int.reduceBNe, ↓reduceIte, h148, h149, h151]
        refine loop_of (I12_0 N p1 v2 y1 _) N [0, 1, 3, 4, 5, 43, 47, 50, 60] [1, 2, 3, 4] (by decide) ⟨(max v2.Acked v2.Base), [], h, ?_⟩ ?_
        · rw [wk_mk]
          simp (config := { maxSteps := 1000000 }) (disch := first | assumption | (simp; done) | omega | (simp; omega)) only [push_cast, reduceCtorEq, Nat.reduceEqDiff, Nat.reduceAdd, Nat.reduceSub, Nat.reduceMul, Nat.reduceLeDiff, Nat.reduceLT, Int.reduceEq, Int.reduceNe, Int.reduceLT, Int.reduceLE, Int.reduceGT, Int.reduceGE, Int.reduceBEq, Int.reduceBNe, ↓reduceIte, h148, h149, h151] <;> rfl
        · rintro n s ⟨a7, a8, h, rfl⟩
          cases n with
          | zero => exact absurd h (by simp [L12_0])
          | succ m1 =>
            rw [L12_0] at h
            unfold f48yb5
            obtain ⟨v9, h163, h⟩ := F_bd h
            simp (config := { maxSteps := 1000000 }) (disch := first | assumption | (simp; done) | omega | (simp; omega)) only [push_cast, reduceCtorEq, Nat.reduceEqDiff, Nat.reduceAdd, Nat.reduceSub, Nat.reduceMul, Nat.reduceLeDiff, Nat.reduceLT, Int.reduceEq, Int.reduceNe, Int.reduceLT, Int.reduceLE, Int.reduceGT, Int.reduceGE, Int.reduceBEq, Int.reduceBNe, ↓reduceIte, h148, h149, h151]
            refine call_flat (by rfl) (c32 N _ _ h163) ?_ rfl ?_
            · simp (config := { maxSteps := 1000000 }) (disch := first | assumption | (simp; done) | omega | (simp; omega)) only [push_cast, reduceCtorEq, Nat.reduceEqDiff, Nat.reduceAdd, Nat.reduceSub, Nat.reduceMul, Nat.reduceLeDiff, Nat.reduceLT, Int.reduceEq, Int.reduceNe, Int.reduceLT, Int.reduceLE, Int.reduceGT, Int.reduceGE, Int.reduceBEq, Int.reduceBNe, ↓reduceIte, h148, h149, h151] <;> rfl
            rcases F_if h with ⟨h164, h⟩ | ⟨h164, h⟩
            · try simp (disch := first | assumption | (simp; done) | omega | (simp; omega)) only [push_cast, reduceCtorEq, Nat.reduceEqDiff, Nat.reduceAdd, Nat.reduceSub, Nat.reduceMul, Nat.reduceLeDiff, Nat.reduceLT, Int.reduceEq, Int.reduceNe, Int.reduceLT, Int.reduceLE, Int.reduceGT, Int.reduceGE, Int.reduceBEq, Int.reduceBNe, ↓reduceIte] at h164
              obtain ⟨h165, h⟩ := F_ck h
              try simp (disch := first | assumption | (simp; done) | omega | (simp; omega)) only [push_cast, reduceCtorEq, Nat.reduceEqDiff, Nat.reduceAdd, Nat.reduceSub, Nat.reduceMul, Nat.reduceLeDiff, Nat.reduceLT, Int.reduceEq, Int.reduceNe, Int.reduceLT, Int.reduceLE, Int.reduceGT, Int.reduceGE, Int.reduceBEq, Int.reduceBNe, ↓reduceIte] at h165
              obtain ⟨x10, h166, h167, h⟩ := F_get h
              have h169 := get_lt h166 h167
              have h168 := map_get rS h167
              try simp (disch := first | assumption | (simp; done) | omega | (simp; omega)) only [push_cast, reduceCtorEq, Nat.reduceEqDiff, Nat.reduceAdd, Nat.reduceSub, Nat.reduceMul, Nat.reduceLeDiff, Nat.reduceLT, Int.reduceEq, Int.reduceNe, Int.reduceLT, Int.reduceLE, Int.reduceGT, Int.reduceGE, Int.reduceBEq, Int.reduceBNe, ↓reduceIte] at h168
              try simp (disch := first | assumption | (simp; done) | omega | (simp; omega)) only [push_cast, reduceCtorEq, Nat.reduceEqDiff, Nat.reduceAdd, Nat.reduceSub, Nat.reduceMul, Nat.reduceLeDiff, Nat.reduceLT, Int.reduceEq, Int.reduceNe, Int.reduceLT, Int.reduceLE, Int.reduceGT, Int.reduceGE, Int.reduceBEq, Int.reduceBNe, ↓reduceIte] at h169
              rcases F_if h with ⟨h170, h⟩ | ⟨h170, h⟩
              · try simp (disch := first | assumption | (simp; done) | omega | (simp; omega)) only [push_cast, reduceCtorEq, Nat.reduceEqDiff, Nat.reduceAdd, Nat.reduceSub, Nat.reduceMul, Nat.reduceLeDiff, Nat.reduceLT, Int.reduceEq, Int.reduceNe, Int.reduceLT, Int.reduceLE, Int.reduceGT, Int.reduceGE, Int.reduceBEq, Int.reduceBNe, ↓reduceIte] at h170
                obtain rfl := Option.some.inj h
                simp (config := { maxSteps := 1000000 }) (disch := first | assumption | (simp; done) | omega | (simp; omega)) only [push_cast, reduceCtorEq, Nat.reduceEqDiff, Nat.reduceAdd, Nat.reduceSub, Nat.reduceMul, Nat.reduceLeDiff, Nat.reduceLT, Int.reduceEq, Int.reduceNe, Int.reduceLT, Int.reduceLE, Int.reduceGT, Int.reduceGE, Int.reduceBEq, Int.reduceBNe, ↓reduceIte, h148, h149, h151, h164, h165, h166, h168, h169, h170]
                refine AEndW.of [3] (.inr rfl) (by decide) rfl ?_ rfl ?_
                · simp (config := { maxSteps := 1000000 }) (disch := first | assumption | (simp; done) | omega | (simp; omega)) only [push_cast, reduceCtorEq, Nat.reduceEqDiff, Nat.reduceAdd, Nat.reduceSub, Nat.reduceMul, Nat.reduceLeDiff, Nat.reduceLT, Int.reduceEq, Int.reduceNe, Int.reduceLT, Int.reduceLE, Int.reduceGT, Int.reduceGE, Int.reduceBEq, Int.reduceBNe, ↓reduceIte, h148, h149, h151, h164, h165, h166, h168, h169, h170] <;> rfl
                · simp (config := { maxSteps := 1000000 }) (disch := first | assumption | (simp; done) | omega | (simp; omega)) only [push_cast, reduceCtorEq, Nat.reduceEqDiff, Nat.reduceAdd, Nat.reduceSub, Nat.reduceMul, Nat.reduceLeDiff, Nat.reduceLT, Int.reduceEq, Int.reduceNe, Int.reduceLT, Int.reduceLE, Int.reduceGT, Int.reduceGE, Int.reduceBEq, Int.reduceBNe, ↓reduceIte, h148, h149, h151, h164, h165, h166, h168, h169, h170] <;> rfl
              · try simp (disch := first | assumption | (simp; done) | omega | (simp; omega)) only [push_cast, reduceCtorEq, Nat.reduceEqDiff, Nat.reduceAdd, Nat.reduceSub, Nat.reduceMul, Nat.reduceLeDiff, Nat.reduceLT, Int.reduceEq, Int.reduceNe, Int.reduceLT, Int.reduceLE, Int.reduceGT, Int.reduceGE, Int.reduceBEq, Int.reduceBNe, ↓reduceIte] at h170
                obtain ⟨h171, h⟩ := F_gd h
                try simp (disch := first | assumption | (simp; done) | omega | (simp; omega)) only [push_cast, reduceCtorEq, Nat.reduceEqDiff, Nat.reduceAdd, Nat.reduceSub, Nat.reduceMul, Nat.reduceLeDiff, Nat.reduceLT, Int.reduceEq, Int.reduceNe, Int.reduceLT, Int.reduceLE, Int.reduceGT, Int.reduceGE, Int.reduceBEq, Int.reduceBNe, ↓reduceIte] at h171
                obtain ⟨h172, h⟩ := F_ck h
                try simp (disch := first | assumption | (simp; done) | omega | (simp; omega)) only [push_cast, reduceCtorEq, Nat.reduceEqDiff, Nat.reduceAdd, Nat.reduceSub, Nat.reduceMul, Nat.reduceLeDiff, Nat.reduceLT, Int.reduceEq, Int.reduceNe, Int.reduceLT, Int.reduceLE, Int.reduceGT, Int.reduceGE, Int.reduceBEq, Int.reduceBNe, ↓reduceIte] at h172
                simp (config := { maxSteps := 1000000 }) (disch := first | assumption | (simp; done) | omega | (simp; omega)) only [push_cast, reduceCtorEq, Nat.reduceEqDiff, Nat.reduceAdd, Nat.reduceSub, Nat.reduceMul, Nat.reduceLeDiff, Nat.reduceLT, Int.reduceEq, Int.reduceNe, Int.reduceLT, Int.reduceLE, Int.reduceGT, Int.reduceGE, Int.reduceBEq, Int.reduceBNe, ↓reduceIte, h148, h149, h151, h164, h165, h166, h168, h169, h170, h171, h172]
                refine lpK_of m1 [0, 1, 3, 4, 5, 43, 47, 50, 60] [0, 1, 2, 6] (by omega) (by decide) ⟨(a7 + 1), (a8 ++ [(Frame.mk false a7 x10)]), h, ?_⟩
                rw [wk_mk]
                simp (config := { maxSteps := 1000000 }) (disch := first | assumption | (simp; done) | omega | (simp; omega)) only [push_cast, reduceCtorEq, Nat.reduceEqDiff, Nat.reduceAdd, Nat.reduceSub, Nat.reduceMul, Nat.reduceLeDiff, Nat.reduceLT, Int.reduceEq, Int.reduceNe, Int.reduceLT, Int.reduceLE, Int.reduceGT, Int.reduceGE, Int.reduceBEq, Int.reduceBNe, ↓reduceIte, h148, h149, h151, h164, h165, h166, h168, h169, h170, h171, h172] <;> rfl
            · try simp (disch := first | assumption | (simp; done) | omega | (simp; omega)) only [push_cast, reduceCtorEq, Nat.reduceEqDiff, Nat.reduceAdd, Nat.reduceSub, Nat.reduceMul, Nat.reduceLeDiff, Nat.reduceLT, Int.reduceEq, Int.reduceNe, Int.reduceLT, Int.reduceLE, Int.reduceGT, Int.reduceGE, Int.reduceBEq, Int.reduceBNe, ↓reduceIte] at h164
              obtain rfl := Option.some.inj h
              simp (config := { maxSteps := 1000000 }) (disch := first | assumption | (simp; done) | omega | (simp; omega)) only [push_cast, reduceCtorEq, Nat.reduceEqDiff, Nat.reduceAdd, Nat.reduceSub, Nat.reduceMul, Nat.reduceLeDiff, Nat.reduceLT, Int.reduceEq, Int.reduceNe, Int.reduceLT, Int.reduceLE, Int.reduceGT, Int.reduceGE, Int.reduceBEq, Int.reduceBNe, ↓reduceIte, h148, h149, h151, h164]
              refine AEndW.of [3] (.inr rfl) (by decide) rfl ?_ rfl ?_
              · simp (config := { maxSteps := 1000000 }) (disch := first | assumption | (simp; done) | omega | (simp; omega)) only [push_cast, reduceCtorEq, Nat.reduceEqDiff, Nat.reduceAdd, Nat.reduceSub, Nat.reduceMul, Nat.reduceLeDiff, Nat.reduceLT, Int.reduceEq, Int.reduceNe, Int.reduceLT, Int.reduceLE, Int.reduceGT, Int.reduceGE, Int.reduceBEq, Int.reduceBNe, ↓reduceIte, h148, h149, h151, h164] <;> rfl
              · simp (config := { maxSteps := 1000000 }) (disch := first | assumption | (simp; done) | omega | (simp; omega)) only [push_cast, reduceCtorEq, Nat.reduceEqDiff, Nat.reduceAdd, Nat.reduceSub, Nat.reduceMul, Nat.reduceLeDiff, Nat.reduceLT, Int.reduceEq, Int.reduceNe, Int.reduceLT, Int.reduceLE, Int.reduceGT, Int.reduceGE, Int.reduceBEq, Int.reduceBNe, ↓reduceIte, h148, h149, h151, h164] <;> rfl
  · try simp (disch := first | assumption | (simp; done) | omega | (simp; omega)) only [push_cast, reduceCtorEq, Nat.reduceEqDiff, Nat.reduceAdd, Nat.reduceSub, Nat.reduceMul, Nat.reduceLeDiff, Nat.reduceLT, Int.reduceEq, Int.reduceNe, Int.reduceLT, Int.reduceLE, Int.reduceGT, Int.reduceGE, Int.reduceBEq, Int.reduceBNe, ↓reduceIte] at h148
    obtain rfl := Option.some.inj h
    simp (config := { maxSteps := 1000000 }) (disch := first | assumption | (simp; done) | omega | (simp; omega)) only [push_cast, reduceCtorEq, Nat.reduceEqDiff, Nat.reduceAdd, Nat.reduceSub, Nat.reduceMul, Nat.reduceLeDiff, Nat.reduceLT, Int.reduceEq, Int.reduceNe, Int.reduceLT, Int.reduceLE, Int.reduceGT, Int.reduceGE, Int.reduceBEq, Int.reduceBNe, ↓reduceIte, h148]
    refine end_own0 4 3 rfl ?_
    simp (config := { maxSteps := 1000000 }) (disch := first | assumption | (simp; done) | omega | (simp; omega)) only [push_cast, reduceCtorEq, Nat.reduceEqDiff, Nat.reduceAdd, Nat.reduceSub, Nat.reduceMul, Nat.reduceLeDiff, Nat.reduceLT, Int.reduceEq, Int.reduceNe, Int.reduceLT, Int.reduceLE, Int.reduceGT, Int.reduceGE, Int.reduceBEq, Int.reduceBNe, ↓reduceIte, h148]
    refine AEndW.of [2] (.inr rfl) (by decide) rfl ?_ rfl ?_
    · simp (config := { maxSteps := 1000000 }) (disch := first | assumption | (simp; done) | omega | (simp; omega)) only [push_cast, reduceCtorEq, Nat.reduceEqDiff, Nat.reduceAdd, Nat.reduceSub, Nat.reduceMul, Nat.reduceLeDiff, Nat.reduceLT, Int.reduceEq, Int.reduceNe, Int.reduceLT, Int.reduceLE, Int.reduceGT, Int.reduceGE, Int.reduceBEq, Int.reduceBNe, ↓reduceIte, h148] <;> rfl
    · simp (config := { maxSteps := 1000000 }) (disch := first | assumption | (simp; done) | omega | (simp; omega)) only [push_cast, reduceCtorEq, Nat.reduceEqDiff, Nat.reduceAdd, Nat.reduceSub, Nat.reduceMul, Nat.reduceLeDiff, Nat.reduceLT, Int.reduceEq, Int.reduceNe, Int.reduceLT, Int.reduceLE, Int.reduceGT, Int.reduceGE, Int.reduceBEq, Int.reduceBNe, ↓reduceIte, h148] <;> rfl

/-! ## 22 rivermark.link.ValidIn -/
def f22g0 : List RO :=
  [⟨(.some 1), (.box (.tmp 0)), .none⟩,
   ⟨(.some 2), (.mv (.const (.bool .false))), .none⟩]
def f22g1 : List RO :=
  [⟨(.some 6), (.faddr 0 (.tmp 1)), .none⟩,
   ⟨(.some 7), (.load .none (.tmp 6)), .none⟩,
   ⟨(.some 3), (.mv (.tmp 7)), .none⟩]
def f22g2 : List RO :=
  [⟨(.some 8), (.faddr 1 (.tmp 1)), .none⟩,
   ⟨(.some 9), (.load .none (.tmp 8)), .none⟩,
   ⟨(.some 10), (.len .false (.tmp 9)), .none⟩,
   ⟨(.some 11), (.mv (.const (.int .i64 0))), .none⟩]
def f22g3 : List RO :=
  [⟨(.some 12), (.bin .lss (.tmp 11) (.tmp 10)), .none⟩]
def f22g4 : List RO :=
  [⟨(.some 13), (.iaddr 3 (.tmp 9) (.tmp 11)), .none⟩,
   ⟨(.some 14), (.load (.some 3) (.tmp 13)), .none⟩,
   ⟨(.some 5), (.new [(.D (.B .false)), (.D (.I .i64 0)), (.D (.S []))]), .none⟩,
   ⟨.none, (.store 3 (.tmp 5) (.tmp 14)), .none⟩]
def f22g5 : List RO :=
  [⟨(.some 15), (.faddr 0 (.tmp 5)), .none⟩,
   ⟨(.some 16), (.load .none (.tmp 15)), .none⟩,
   ⟨(.some 17), (.mv (.tmp 16)), .none⟩,
   ⟨(.some 18), (.faddr 1 (.tmp 5)), (.some (17, .false))⟩,
   ⟨(.some 19), (.load .none (.tmp 18)), (.some (17, .false))⟩,
   ⟨(.some 20), (.mv (.tmp 3)), (.some (17, .false))⟩,
   ⟨(.some 21), (.bin .leq (.tmp 19) (.tmp 20)), (.some (17, .false))⟩,
   ⟨(.some 22), (.pick (.tmp 17) (.const (.bool .true)) (.tmp 21)), .none⟩,
   ⟨(.some 23), (.mv (.tmp 22)), .none⟩,
   ⟨(.some 24), (.faddr 1 (.tmp 5)), (.some (23, .false))⟩,
   ⟨(.some 25), (.load .none (.tmp 24)), (.some (23, .false))⟩,
   ⟨(.some 26), (.bin .gtr (.tmp 25) (.const (.int .i64 2199023255552))), (.some (23, .false))⟩,
   ⟨(.some 27), (.pick (.tmp 23) (.const (.bool .true)) (.tmp 26)), .none⟩,
   ⟨(.some 28), (.mv (.tmp 27)), .none⟩,
   ⟨(.some 29), (.faddr 2 (.tmp 5)), (.some (28, .false))⟩,
   ⟨(.some 30), (.load .none (.tmp 29)), (.some (28, .false))⟩,
   ⟨(.some 31), (.call (.func 31) [(.tmp 30)]), (.some (28, .false))⟩,
   ⟨(.some 32), (.un .not (.tmp 31)), (.some (28, .false))⟩,
   ⟨(.some 33), (.pick (.tmp 28) (.const (.bool .true)) (.tmp 32)), .none⟩]
def f22g6 : List RO :=
  [⟨(.some 2), (.mv (.const (.bool .false))), .none⟩]
def f22g7 : List RO :=
  [⟨(.some 34), (.faddr 1 (.tmp 5)), .none⟩,
   ⟨(.some 35), (.load .none (.tmp 34)), .none⟩,
   ⟨(.some 3), (.mv (.tmp 35)), .none⟩]
def f22g8 : List RO :=
  [⟨(.some 36), (.bin .add (.tmp 11) (.const (.int .i64 1))), .none⟩,
   ⟨(.some 11), (.mv (.tmp 36)), .none⟩]
def f22b9 : RCode := (.seq (.reg .false f22g3) (.seq (.cond (.tmp 12) .skip (.exit 0)) (.seq (.block 1 (.seq (.reg .false f22g4) (.seq (.seq (.reg .false f22g5) (.cond (.tmp 33) (.seq (.reg .false f22g6) .ret) .skip)) (.reg .false f22g7)))) (.reg .false f22g8))))
def f22g10 : List RO :=
  [⟨(.some 37), (.faddr 0 (.tmp 1)), .none⟩,
   ⟨(.some 38), (.load .none (.tmp 37)), .none⟩,
   ⟨(.some 39), (.call (.func 35) [(.tmp 38), (.const (.int .i64 2199023255552))]), .none⟩,
   ⟨(.some 40), (.mv (.tmp 39)), .none⟩,
   ⟨(.some 41), (.faddr 1 (.tmp 1)), (.some (40, .true))⟩,
   ⟨(.some 42), (.load .none (.tmp 41)), (.some (40, .true))⟩,
   ⟨(.some 43), (.len .false (.tmp 42)), (.some (40, .true))⟩,
   ⟨(.some 44), (.bin .leq (.tmp 43) (.const (.int .i64 64))), (.some (40, .true))⟩,
   ⟨(.some 45), (.pick (.tmp 40) (.tmp 44) (.const (.bool .false))), .none⟩,
   ⟨(.some 2), (.mv (.tmp 45)), .none⟩]
def f22c : RCode := (.seq (.reg .false f22g0) (.seq (.reg .false f22g1) (.seq (.seq (.reg .false f22g2) (.block 0 (.loop f22b9))) (.seq (.reg .false f22g10) .ret))))
def f22r : List RRes := [(.tmp 2)]
attribute [push_cast] f22g0 f22g1 f22g2 f22g3 f22g4 f22g5 f22g6 f22g7 f22g8 f22g10
def L22_0 (N : Nat) (p0 : Inbox) : Nat → Int → Int → Option Bool
  | 0, _, _ => none
  | m1+1, a1, a2 => if? (decide (a2 < (p0.Ahead.length : Int))) (get? p0.Ahead (a2) fun x3 => if? (x3.Sum) (some (false)) (if? (decide (x3.Seq ≤ a1)) (some (false)) (if? (decide (x3.Seq > 2199023255552)) (some (false)) (bd? (F31 N x3.Body) fun v4 => if? (v4) (ck .i64 (a2 + 1) (L22_0 N p0 m1 x3.Seq (a2 + 1))) (some (false)))))) (bd? (F35 N p0.Next 2199023255552) fun v5 => if? (v5) (some (decide ((p0.Ahead.length : Int) ≤ 64))) (some (false)))
def I22_0 (N : Nat) (p0 : Inbox) (r : Bool) (n : Nat) (s : AState) : Prop := ∃ (a1 : Int) (a2 : Int), L22_0 N p0 n a1 a2 = some r ∧ s = ⟨envL [(1, .ptr (.O 0) 0), (3, .D (.I .i64 a1)), (9, .D (.L (p0.Ahead.map Frame.row))), (10, .D (.I .i64 (p0.Ahead.length : Int))), (11, .D (.I .i64 a2))], ownL [], ownL [some (.box [.D (.I .i64 p0.Next), .D (.L (p0.Ahead.map Frame.row))])], 1⟩
def F22 (N : Nat) (p0 : Inbox) : Option Bool := L22_0 N p0 N p0.Next 0
theorem c22 (N : Nat) (p0 : Inbox) (r : Bool) (h : F22 N p0 = some r) : ACall Try.prog 22 [.agg [.D (.I .i64 p0.Next), .D (.L (p0.Ahead.map Frame.row))]] [] (.D (.B r)) [] [] := by
  refine ACall.of_bodyW [] (fn := Try.f22) (rc := f22c) (rs := f22r) Try.func22 rfl rfl (by kernel_rfl) (by kernel_rfl) (by kernel_rfl) (by rw [Try.ntmps22]; simp) ?_
  unfold F22 at h
  unfold f22c f22r
  rw [entry_eq _ _]
  simp (config := { maxSteps := 1000000 }) (disch := first | assumption | (simp; done) | omega | (simp; omega)) only [push_cast, reduceCtorEq, Nat.reduceEqDiff, Nat.reduceAdd, Nat.reduceSub, Nat.reduceMul, Nat.reduceLeDiff, Nat.reduceLT, Int.reduceEq, Int.reduceNe, Int.reduceLT, Int.reduceLE, Int.reduceGT, Int.reduceGE, Int.reduceBEq, Int.reduceBNe, ↓reduceIte]
  refine loop_of (I22_0 N p0 _) N [1, 3, 9, 10, 11] [0] (by decide) ⟨p0.Next, 0, h, ?_⟩ ?_
  · rw [wk_mk]
    simp (config := { maxSteps := 1000000 }) (disch := first | assumption | (simp; done) | omega | (simp; omega)) only [push_cast, reduceCtorEq, Nat.reduceEqDiff, Nat.reduceAdd, Nat.reduceSub, Nat.reduceMul, Nat.reduceLeDiff, Nat.reduceLT, Int.reduceEq, Int.reduceNe, Int.reduceLT, Int.reduceLE, Int.reduceGT, Int.reduceGE, Int.reduceBEq, Int.reduceBNe, ↓reduceIte] <;> rfl
  · rintro n s ⟨a1, a2, h, rfl⟩
    cases n with
    | zero => exact absurd h (by simp [L22_0])
    | succ m1 =>
      rw [L22_0] at h
      unfold f22b9
      rcases F_if h with ⟨h173, h⟩ | ⟨h173, h⟩
      · try simp (disch := first | assumption | (simp; done) | omega | (simp; omega)) only [push_cast, reduceCtorEq, Nat.reduceEqDiff, Nat.reduceAdd, Nat.reduceSub, Nat.reduceMul, Nat.reduceLeDiff, Nat.reduceLT, Int.reduceEq, Int.reduceNe, Int.reduceLT, Int.reduceLE, Int.reduceGT, Int.reduceGE, Int.reduceBEq, Int.reduceBNe, ↓reduceIte] at h173
        obtain ⟨x3, h174, h175, h⟩ := F_get h
        have h177 := get_lt h174 h175
        have h176 := map_get Frame.row h175
        try simp (disch := first | assumption | (simp; done) | omega | (simp; omega)) only [push_cast, reduceCtorEq, Nat.reduceEqDiff, Nat.reduceAdd, Nat.reduceSub, Nat.reduceMul, Nat.reduceLeDiff, Nat.reduceLT, Int.reduceEq, Int.reduceNe, Int.reduceLT, Int.reduceLE, Int.reduceGT, Int.reduceGE, Int.reduceBEq, Int.reduceBNe, ↓reduceIte] at h176
        try simp (disch := first | assumption | (simp; done) | omega | (simp; omega)) only [push_cast, reduceCtorEq, Nat.reduceEqDiff, Nat.reduceAdd, Nat.reduceSub, Nat.reduceMul, Nat.reduceLeDiff, Nat.reduceLT, Int.reduceEq, Int.reduceNe, Int.reduceLT, Int.reduceLE, Int.reduceGT, Int.reduceGE, Int.reduceBEq, Int.reduceBNe, ↓reduceIte] at h177
        rcases F_if h with ⟨h178, h⟩ | ⟨h178, h⟩
        · try simp (disch := first | assumption | (simp; done) | omega | (simp; omega)) only [push_cast, reduceCtorEq, Nat.reduceEqDiff, Nat.reduceAdd, Nat.reduceSub, Nat.reduceMul, Nat.reduceLeDiff, Nat.reduceLT, Int.reduceEq, Int.reduceNe, Int.reduceLT, Int.reduceLE, Int.reduceGT, Int.reduceGE, Int.reduceBEq, Int.reduceBNe, ↓reduceIte] at h178
          obtain rfl := Option.some.inj h
          simp (config := { maxSteps := 1000000 }) (disch := first | assumption | (simp; done) | omega | (simp; omega)) only [push_cast, reduceCtorEq, Nat.reduceEqDiff, Nat.reduceAdd, Nat.reduceSub, Nat.reduceMul, Nat.reduceLeDiff, Nat.reduceLT, Int.reduceEq, Int.reduceNe, Int.reduceLT, Int.reduceLE, Int.reduceGT, Int.reduceGE, Int.reduceBEq, Int.reduceBNe, ↓reduceIte, h173, h174, h176, h177, h178]
          refine e_ret (.inr rfl) ?_
          simp (config := { maxSteps := 1000000 }) (disch := first | assumption | (simp; done) | omega | (simp; omega)) only [push_cast, reduceCtorEq, Nat.reduceEqDiff, Nat.reduceAdd, Nat.reduceSub, Nat.reduceMul, Nat.reduceLeDiff, Nat.reduceLT, Int.reduceEq, Int.reduceNe, Int.reduceLT, Int.reduceLE, Int.reduceGT, Int.reduceGE, Int.reduceBEq, Int.reduceBNe, ↓reduceIte, aret, aresults, aresult, h173, h174, h176, h177, h178]
          refine ⟨_, rfl, ?_⟩
          first | (simp (config := { maxSteps := 1000000 }) (disch := first | assumption | (simp; done) | omega | (simp; omega)) only [push_cast, reduceCtorEq, Nat.reduceEqDiff, Nat.reduceAdd, Nat.reduceSub, Nat.reduceMul, Nat.reduceLeDiff, Nat.reduceLT, Int.reduceEq, Int.reduceNe, Int.reduceLT, Int.reduceLE, Int.reduceGT, Int.reduceGE, Int.reduceBEq, Int.reduceBNe, ↓reduceIte, h173, h174, h176, h177, h178] <;> rfl) | rfl
        · try simp (disch := first | assumption | (simp; done) | omega | (simp; omega)) only [push_cast, reduceCtorEq, Nat.reduceEqDiff, Nat.reduceAdd, Nat.reduceSub, Nat.reduceMul, Nat.reduceLeDiff, Nat.reduceLT, Int.reduceEq, Int.reduceNe, Int.reduceLT, Int.reduceLE, Int.reduceGT, Int.reduceGE, Int.reduceBEq, Int.reduceBNe, ↓reduceIte] at h178
          rcases F_if h with ⟨h179, h⟩ | ⟨h179, h⟩
          · try simp (disch := first | assumption | (simp; done) | omega | (simp; omega)) only [push_cast, reduceCtorEq, Nat.reduceEqDiff, Nat.reduceAdd, Nat.reduceSub, Nat.reduceMul, Nat.reduceLeDiff, Nat.reduceLT, Int.reduceEq, Int.reduceNe, Int.reduceLT, Int.reduceLE, Int.reduceGT, Int.reduceGE, Int.reduceBEq, Int.reduceBNe, ↓reduceIte] at h179
            obtain rfl := Option.some.inj h
            simp (config := { maxSteps := 1000000 }) (disch := first | assumption | (simp; done) | omega | (simp; omega)) only [push_cast, reduceCtorEq, Nat.reduceEqDiff, Nat.reduceAdd, Nat.reduceSub, Nat.reduceMul, Nat.reduceLeDiff, Nat.reduceLT, Int.reduceEq, Int.reduceNe, Int.reduceLT, Int.reduceLE, Int.reduceGT, Int.reduceGE, Int.reduceBEq, Int.reduceBNe, ↓reduceIte, h173, h174, h176, h177, h178, h179]
            refine e_ret (.inr rfl) ?_
            simp (config := { maxSteps := 1000000 }) (disch := first | assumption | (simp; done) | omega | (simp; omega)) only [push_cast, reduceCtorEq, Nat.reduceEqDiff, Nat.reduceAdd, Nat.reduceSub, Nat.reduceMul, Nat.reduceLeDiff, Nat.reduceLT, Int.reduceEq, Int.reduceNe, Int.reduceLT, Int.reduceLE, Int.reduceGT, Int.reduceGE, Int.reduceBEq, Int.reduceBNe, ↓reduceIte, aret, aresults, aresult, h173, h174, h176, h177, h178, h179]
            refine ⟨_, rfl, ?_⟩
            first | (simp (config := { maxSteps := 1000000 }) (disch := first | assumption | (simp; done) | omega | (simp; omega)) only [push_cast, reduceCtorEq, Nat.reduceEqDiff, Nat.reduceAdd, Nat.reduceSub, Nat.reduceMul, Nat.reduceLeDiff, Nat.reduceLT, Int.reduceEq, Int.reduceNe, Int.reduceLT, Int.reduceLE, Int.reduceGT, Int.reduceGE, Int.reduceBEq, Int.reduceBNe, ↓reduceIte, h173, h174, h176, h177, h178, h179] <;> rfl) | rfl
          · try simp (disch := first | assumption | (simp; done) | omega | (simp; omega)) only [push_cast, reduceCtorEq, Nat.reduceEqDiff, Nat.reduceAdd, Nat.reduceSub, Nat.reduceMul, Nat.reduceLeDiff, Nat.reduceLT, Int.reduceEq, Int.reduceNe, Int.reduceLT, Int.reduceLE, Int.reduceGT, Int.reduceGE, Int.reduceBEq, Int.reduceBNe, ↓reduceIte] at h179
            rcases F_if h with ⟨h180, h⟩ | ⟨h180, h⟩
            · try simp (disch := first | assumption | (simp; done) | omega | (simp; omega)) only [push_cast, reduceCtorEq, Nat.reduceEqDiff, Nat.reduceAdd, Nat.reduceSub, Nat.reduceMul, Nat.reduceLeDiff, Nat.reduceLT, Int.reduceEq, Int.reduceNe, Int.reduceLT, Int.reduceLE, Int.reduceGT, Int.reduceGE, Int.reduceBEq, Int.reduceBNe, ↓reduceIte] at h180
              obtain rfl := Option.some.inj h
              simp (config := { maxSteps := 1000000 }) (disch := first | assumption | (simp; done) | omega | (simp; omega)) only [push_cast, reduceCtorEq, Nat.reduceEqDiff, Nat.reduceAdd, Nat.reduceSub, Nat.reduceMul, Nat.reduceLeDiff, Nat.reduceLT, Int.reduceEq, Int.reduceNe, Int.reduceLT, Int.reduceLE, Int.reduceGT, Int.reduceGE, Int.reduceBEq, Int.reduceBNe, ↓reduceIte, h173, h174, h176, h177, h178, h179, h180]
              refine e_ret (.inr rfl) ?_
              simp (config := { maxSteps := 1000000 }) (disch := first | assumption | (simp; done) | omega | (simp; omega)) only [push_cast, reduceCtorEq, Nat.reduceEqDiff, Nat.reduceAdd, Nat.reduceSub, Nat.reduceMul, Nat.reduceLeDiff, Nat.reduceLT, Int.reduceEq, Int.reduceNe, Int.reduceLT, Int.reduceLE, Int.reduceGT, Int.reduceGE, Int.reduceBEq, Int.reduceBNe, ↓reduceIte, aret, aresults, aresult, h173, h174, h176, h177, h178, h179, h180]
              refine ⟨_, rfl, ?_⟩
              first | (simp (config := { maxSteps := 1000000 }) (disch := first | assumption | (simp; done) | omega | (simp; omega)) only [push_cast, reduceCtorEq, Nat.reduceEqDiff, Nat.reduceAdd, Nat.reduceSub, Nat.reduceMul, Nat.reduceLeDiff, Nat.reduceLT, Int.reduceEq, Int.reduceNe, Int.reduceLT, Int.reduceLE, Int.reduceGT, Int.reduceGE, Int.reduceBEq, Int.reduceBNe, ↓reduceIte, h173, h174, h176, h177, h178, h179, h180] <;> rfl) | rfl
            · try simp (disch := first | assumption | (simp; done) | omega | (simp; omega)) only [push_cast, reduceCtorEq, Nat.reduceEqDiff, Nat.reduceAdd, Nat.reduceSub, Nat.reduceMul, Nat.reduceLeDiff, Nat.reduceLT, Int.reduceEq, Int.reduceNe, Int.reduceLT, Int.reduceLE, Int.reduceGT, Int.reduceGE, Int.reduceBEq, Int.reduceBNe, ↓reduceIte] at h180
              obtain ⟨v4, h181, h⟩ := F_bd h
              simp (config := { maxSteps := 1000000 }) (disch := first | assumption | (simp; done) | omega | (simp; omega)) only [push_cast, reduceCtorEq, Nat.reduceEqDiff, Nat.reduceAdd, Nat.reduceSub, Nat.reduceMul, Nat.reduceLeDiff, Nat.reduceLT, Int.reduceEq, Int.reduceNe, Int.reduceLT, Int.reduceLE, Int.reduceGT, Int.reduceGE, Int.reduceBEq, Int.reduceBNe, ↓reduceIte, h173, h174, h176, h177, h178, h179, h180]
              refine call_flat (by rfl) (c31 N _ _ h181) ?_ rfl ?_
              · simp (config := { maxSteps := 1000000 }) (disch := first | assumption | (simp; done) | omega | (simp; omega)) only [push_cast, reduceCtorEq, Nat.reduceEqDiff, Nat.reduceAdd, Nat.reduceSub, Nat.reduceMul, Nat.reduceLeDiff, Nat.reduceLT, Int.reduceEq, Int.reduceNe, Int.reduceLT, Int.reduceLE, Int.reduceGT, Int.reduceGE, Int.reduceBEq, Int.reduceBNe, ↓reduceIte, h173, h174, h176, h177, h178, h179, h180] <;> rfl
              rcases F_if h with ⟨h182, h⟩ | ⟨h182, h⟩
              · try simp (disch := first | assumption | (simp; done) | omega | (simp; omega)) only [push_cast, reduceCtorEq, Nat.reduceEqDiff, Nat.reduceAdd, Nat.reduceSub, Nat.reduceMul, Nat.reduceLeDiff, Nat.reduceLT, Int.reduceEq, Int.reduceNe, Int.reduceLT, Int.reduceLE, Int.reduceGT, Int.reduceGE, Int.reduceBEq, Int.reduceBNe, ↓reduceIte] at h182
                obtain ⟨h183, h⟩ := F_ck h
                try simp (disch := first | assumption | (simp; done) | omega | (simp; omega)) only [push_cast, reduceCtorEq, Nat.reduceEqDiff, Nat.reduceAdd, Nat.reduceSub, Nat.reduceMul, Nat.reduceLeDiff, Nat.reduceLT, Int.reduceEq, Int.reduceNe, Int.reduceLT, Int.reduceLE, Int.reduceGT, Int.reduceGE, Int.reduceBEq, Int.reduceBNe, ↓reduceIte] at h183
                simp (config := { maxSteps := 1000000 }) (disch := first | assumption | (simp; done) | omega | (simp; omega)) only [push_cast, reduceCtorEq, Nat.reduceEqDiff, Nat.reduceAdd, Nat.reduceSub, Nat.reduceMul, Nat.reduceLeDiff, Nat.reduceLT, Int.reduceEq, Int.reduceNe, Int.reduceLT, Int.reduceLE, Int.reduceGT, Int.reduceGE, Int.reduceBEq, Int.reduceBNe, ↓reduceIte, h173, h174, h176, h177, h178, h179, h180, h182, h183]
                refine lpK_of m1 [1, 3, 9, 10, 11] [0] (by omega) (by decide) ⟨x3.Seq, (a2 + 1), h, ?_⟩
                rw [wk_mk]
                simp (config := { maxSteps := 1000000 }) (disch := first | assumption | (simp; done) | omega | (simp; omega)) only [push_cast, reduceCtorEq, Nat.reduceEqDiff, Nat.reduceAdd, Nat.reduceSub, Nat.reduceMul, Nat.reduceLeDiff, Nat.reduceLT, Int.reduceEq, Int.reduceNe, Int.reduceLT, Int.reduceLE, Int.reduceGT, Int.reduceGE, Int.reduceBEq, Int.reduceBNe, ↓reduceIte, h173, h174, h176, h177, h178, h179, h180, h182, h183] <;> rfl
              · try simp (disch := first | assumption | (simp; done) | omega | (simp; omega)) only [push_cast, reduceCtorEq, Nat.reduceEqDiff, Nat.reduceAdd, Nat.reduceSub, Nat.reduceMul, Nat.reduceLeDiff, Nat.reduceLT, Int.reduceEq, Int.reduceNe, Int.reduceLT, Int.reduceLE, Int.reduceGT, Int.reduceGE, Int.reduceBEq, Int.reduceBNe, ↓reduceIte] at h182
                obtain rfl := Option.some.inj h
                simp (config := { maxSteps := 1000000 }) (disch := first | assumption | (simp; done) | omega | (simp; omega)) only [push_cast, reduceCtorEq, Nat.reduceEqDiff, Nat.reduceAdd, Nat.reduceSub, Nat.reduceMul, Nat.reduceLeDiff, Nat.reduceLT, Int.reduceEq, Int.reduceNe, Int.reduceLT, Int.reduceLE, Int.reduceGT, Int.reduceGE, Int.reduceBEq, Int.reduceBNe, ↓reduceIte, h173, h174, h176, h177, h178, h179, h180, h182]
                refine e_ret (.inr rfl) ?_
                simp (config := { maxSteps := 1000000 }) (disch := first | assumption | (simp; done) | omega | (simp; omega)) only [push_cast, reduceCtorEq, Nat.reduceEqDiff, Nat.reduceAdd, Nat.reduceSub, Nat.reduceMul, Nat.reduceLeDiff, Nat.reduceLT, Int.reduceEq, Int.reduceNe, Int.reduceLT, Int.reduceLE, Int.reduceGT, Int.reduceGE, Int.reduceBEq, Int.reduceBNe, ↓reduceIte, aret, aresults, aresult, h173, h174, h176, h177, h178, h179, h180, h182]
                refine ⟨_, rfl, ?_⟩
                first | (simp (config := { maxSteps := 1000000 }) (disch := first | assumption | (simp; done) | omega | (simp; omega)) only [push_cast, reduceCtorEq, Nat.reduceEqDiff, Nat.reduceAdd, Nat.reduceSub, Nat.reduceMul, Nat.reduceLeDiff, Nat.reduceLT, Int.reduceEq, Int.reduceNe, Int.reduceLT, Int.reduceLE, Int.reduceGT, Int.reduceGE, Int.reduceBEq, Int.reduceBNe, ↓reduceIte, h173, h174, h176, h177, h178, h179, h180, h182] <;> rfl) | rfl
      · try simp (disch := first | assumption | (simp; done) | omega | (simp; omega)) only [push_cast, reduceCtorEq, Nat.reduceEqDiff, Nat.reduceAdd, Nat.reduceSub, Nat.reduceMul, Nat.reduceLeDiff, Nat.reduceLT, Int.reduceEq, Int.reduceNe, Int.reduceLT, Int.reduceLE, Int.reduceGT, Int.reduceGE, Int.reduceBEq, Int.reduceBNe, ↓reduceIte] at h173
        obtain ⟨v5, h184, h⟩ := F_bd h
        simp (config := { maxSteps := 1000000 }) (disch := first | assumption | (simp; done) | omega | (simp; omega)) only [push_cast, reduceCtorEq, Nat.reduceEqDiff, Nat.reduceAdd, Nat.reduceSub, Nat.reduceMul, Nat.reduceLeDiff, Nat.reduceLT, Int.reduceEq, Int.reduceNe, Int.reduceLT, Int.reduceLE, Int.reduceGT, Int.reduceGE, Int.reduceBEq, Int.reduceBNe, ↓reduceIte, h173]
        refine call_flat (by rfl) (c35 N _ _ _ h184) ?_ rfl ?_
        · simp (config := { maxSteps := 1000000 }) (disch := first | assumption | (simp; done) | omega | (simp; omega)) only [push_cast, reduceCtorEq, Nat.reduceEqDiff, Nat.reduceAdd, Nat.reduceSub, Nat.reduceMul, Nat.reduceLeDiff, Nat.reduceLT, Int.reduceEq, Int.reduceNe, Int.reduceLT, Int.reduceLE, Int.reduceGT, Int.reduceGE, Int.reduceBEq, Int.reduceBNe, ↓reduceIte, h173] <;> rfl
        rcases F_if h with ⟨h185, h⟩ | ⟨h185, h⟩
        · try simp (disch := first | assumption | (simp; done) | omega | (simp; omega)) only [push_cast, reduceCtorEq, Nat.reduceEqDiff, Nat.reduceAdd, Nat.reduceSub, Nat.reduceMul, Nat.reduceLeDiff, Nat.reduceLT, Int.reduceEq, Int.reduceNe, Int.reduceLT, Int.reduceLE, Int.reduceGT, Int.reduceGE, Int.reduceBEq, Int.reduceBNe, ↓reduceIte] at h185
          obtain rfl := Option.some.inj h
          simp (config := { maxSteps := 1000000 }) (disch := first | assumption | (simp; done) | omega | (simp; omega)) only [push_cast, reduceCtorEq, Nat.reduceEqDiff, Nat.reduceAdd, Nat.reduceSub, Nat.reduceMul, Nat.reduceLeDiff, Nat.reduceLT, Int.reduceEq, Int.reduceNe, Int.reduceLT, Int.reduceLE, Int.reduceGT, Int.reduceGE, Int.reduceBEq, Int.reduceBNe, ↓reduceIte, h173, h185]
          refine e_ret (.inr rfl) ?_
          simp (config := { maxSteps := 1000000 }) (disch := first | assumption | (simp; done) | omega | (simp; omega)) only [push_cast, reduceCtorEq, Nat.reduceEqDiff, Nat.reduceAdd, Nat.reduceSub, Nat.reduceMul, Nat.reduceLeDiff, Nat.reduceLT, Int.reduceEq, Int.reduceNe, Int.reduceLT, Int.reduceLE, Int.reduceGT, Int.reduceGE, Int.reduceBEq, Int.reduceBNe, ↓reduceIte, aret, aresults, aresult, h173, h185]
          refine ⟨_, rfl, ?_⟩
          first | (simp (config := { maxSteps := 1000000 }) (disch := first | assumption | (simp; done) | omega | (simp; omega)) only [push_cast, reduceCtorEq, Nat.reduceEqDiff, Nat.reduceAdd, Nat.reduceSub, Nat.reduceMul, Nat.reduceLeDiff, Nat.reduceLT, Int.reduceEq, Int.reduceNe, Int.reduceLT, Int.reduceLE, Int.reduceGT, Int.reduceGE, Int.reduceBEq, Int.reduceBNe, ↓reduceIte, h173, h185] <;> rfl) | rfl
        · try simp (disch := first | assumption | (simp; done) | omega | (simp; omega)) only [push_cast, reduceCtorEq, Nat.reduceEqDiff, Nat.reduceAdd, Nat.reduceSub, Nat.reduceMul, Nat.reduceLeDiff, Nat.reduceLT, Int.reduceEq, Int.reduceNe, Int.reduceLT, Int.reduceLE, Int.reduceGT, Int.reduceGE, Int.reduceBEq, Int.reduceBNe, ↓reduceIte] at h185
          obtain rfl := Option.some.inj h
          simp (config := { maxSteps := 1000000 }) (disch := first | assumption | (simp; done) | omega | (simp; omega)) only [push_cast, reduceCtorEq, Nat.reduceEqDiff, Nat.reduceAdd, Nat.reduceSub, Nat.reduceMul, Nat.reduceLeDiff, Nat.reduceLT, Int.reduceEq, Int.reduceNe, Int.reduceLT, Int.reduceLE, Int.reduceGT, Int.reduceGE, Int.reduceBEq, Int.reduceBNe, ↓reduceIte, h173, h185]
          refine e_ret (.inr rfl) ?_
          simp (config := { maxSteps := 1000000 }) (disch := first | assumption | (simp; done) | omega | (simp; omega)) only [push_cast, reduceCtorEq, Nat.reduceEqDiff, Nat.reduceAdd, Nat.reduceSub, Nat.reduceMul, Nat.reduceLeDiff, Nat.reduceLT, Int.reduceEq, Int.reduceNe, Int.reduceLT, Int.reduceLE, Int.reduceGT, Int.reduceGE, Int.reduceBEq, Int.reduceBNe, ↓reduceIte, aret, aresults, aresult, h173, h185]
          refine ⟨_, rfl, ?_⟩
          first | (simp (config := { maxSteps := 1000000 }) (disch := first | assumption | (simp; done) | omega | (simp; omega)) only [push_cast, reduceCtorEq, Nat.reduceEqDiff, Nat.reduceAdd, Nat.reduceSub, Nat.reduceMul, Nat.reduceLeDiff, Nat.reduceLT, Int.reduceEq, Int.reduceNe, Int.reduceLT, Int.reduceLE, Int.reduceGT, Int.reduceGE, Int.reduceBEq, Int.reduceBNe, ↓reduceIte, h173, h185] <;> rfl) | rfl

/-! ## 40 rivermark.link.Receive$1 -/
def f40g0 : List RO :=
  [⟨(.some 2), (.box (.tmp 0)), .none⟩,
   ⟨(.some 4), (.mv (.const (.int .i64 0))), .none⟩]
def f40g1 : List RO :=
  [⟨(.some 5), (.faddr 1 (.tmp 2)), .none⟩,
   ⟨(.some 6), (.load .none (.tmp 5)), .none⟩,
   ⟨(.some 7), (.mv (.tmp 1)), .none⟩,
   ⟨(.some 8), (.bin .sub (.tmp 6) (.tmp 7)), .none⟩,
   ⟨(.some 4), (.mv (.tmp 8)), .none⟩]
def f40c : RCode := (.seq (.reg .false f40g0) (.seq (.reg .false f40g1) .ret))
def f40r : List RRes := [(.tmp 4)]
attribute [push_cast] f40g0 f40g1
def F40 (N : Nat) (p0 : Frame) (p1 : Int) : Option Int := ck .i64 (p0.Seq - p1) (some ((p0.Seq - p1)))
theorem c40 (N : Nat) (p0 : Frame) (p1 : Int) (r : Int) (h : F40 N p0 p1 = some r) : ACall Try.prog 40 [.agg [.D (.B p0.Sum), .D (.I .i64 p0.Seq), .D (.S p0.Body)], .D (.I .i64 p1)] [] (.D (.I .i64 r)) [] [] := by
  refine ACall.of_bodyW [] (fn := Try.f40) (rc := f40c) (rs := f40r) Try.func40 rfl rfl (by kernel_rfl) (by kernel_rfl) (by kernel_rfl) (by rw [Try.ntmps40]; simp) ?_
  unfold F40 at h
  unfold f40c f40r
  rw [entry_eq _ _]
  obtain ⟨h186, h⟩ := F_ck h
  try simp (disch := first | assumption | (simp; done) | omega | (simp; omega)) only [push_cast, reduceCtorEq, Nat.reduceEqDiff, Nat.reduceAdd, Nat.reduceSub, Nat.reduceMul, Nat.reduceLeDiff, Nat.reduceLT, Int.reduceEq, Int.reduceNe, Int.reduceLT, Int.reduceLE, Int.reduceGT, Int.reduceGE, Int.reduceBEq, Int.reduceBNe, ↓reduceIte] at h186
  obtain rfl := Option.some.inj h
  simp (config := { maxSteps := 1000000 }) (disch := first | assumption | (simp; done) | omega | (simp; omega)) only [push_cast, reduceCtorEq, Nat.reduceEqDiff, Nat.reduceAdd, Nat.reduceSub, Nat.reduceMul, Nat.reduceLeDiff, Nat.reduceLT, Int.reduceEq, Int.reduceNe, Int.reduceLT, Int.reduceLE, Int.reduceGT, Int.reduceGE, Int.reduceBEq, Int.reduceBNe, ↓reduceIte, h186]
  refine e_ret (.inr rfl) ?_
  simp (config := { maxSteps := 1000000 }) (disch := first | assumption | (simp; done) | omega | (simp; omega)) only [push_cast, reduceCtorEq, Nat.reduceEqDiff, Nat.reduceAdd, Nat.reduceSub, Nat.reduceMul, Nat.reduceLeDiff, Nat.reduceLT, Int.reduceEq, Int.reduceNe, Int.reduceLT, Int.reduceLE, Int.reduceGT, Int.reduceGE, Int.reduceBEq, Int.reduceBNe, ↓reduceIte, aret, aresults, aresult, h186]
  refine ⟨_, rfl, ?_⟩
  first | (simp (config := { maxSteps := 1000000 }) (disch := first | assumption | (simp; done) | omega | (simp; omega)) only [push_cast, reduceCtorEq, Nat.reduceEqDiff, Nat.reduceAdd, Nat.reduceSub, Nat.reduceMul, Nat.reduceLeDiff, Nat.reduceLT, Int.reduceEq, Int.reduceNe, Int.reduceLT, Int.reduceLE, Int.reduceGT, Int.reduceGE, Int.reduceBEq, Int.reduceBNe, ↓reduceIte, h186] <;> rfl) | rfl

/-! ## 39 slices.BinarySearchFunc[[]rivermark.api.Frame,rivermark.api.Frame,int] -/
def f39g0 : List RO :=
  [⟨(.some 6), (.mv (.const (.int .i64 0))), .none⟩,
   ⟨(.some 7), (.mv (.const (.bool .false))), .none⟩]
def f39g1 : List RO :=
  [⟨(.some 12), (.mv (.tmp 0)), .none⟩,
   ⟨(.some 13), (.len .false (.tmp 12)), .none⟩,
   ⟨(.some 8), (.mv (.tmp 13)), .none⟩]
def f39g2 : List RO :=
  [⟨(.some 14), (.mv (.tmp 8)), .none⟩,
   ⟨(.some 9), (.mv (.const (.int .i64 0))), .none⟩,
   ⟨(.some 10), (.mv (.tmp 14)), .none⟩]
def f39g3 : List RO :=
  [⟨(.some 15), (.mv (.tmp 9)), .none⟩,
   ⟨(.some 16), (.mv (.tmp 10)), .none⟩,
   ⟨(.some 17), (.bin .lss (.tmp 15) (.tmp 16)), .none⟩]
def f39g4 : List RO :=
  [⟨(.some 18), (.mv (.tmp 9)), .none⟩,
   ⟨(.some 19), (.mv (.tmp 10)), .none⟩,
   ⟨(.some 20), (.bin .add (.tmp 18) (.tmp 19)), .none⟩,
   ⟨(.some 21), (.cvI .u64 (.tmp 20)), .none⟩,
   ⟨(.some 22), (.bin .shr (.tmp 21) (.const (.int .u64 1))), .none⟩,
   ⟨(.some 23), (.cvI .i64 (.tmp 22)), .none⟩,
   ⟨(.some 11), (.mv (.tmp 23)), .none⟩]
def f39g5 : List RO :=
  [⟨(.some 24), (.mv (.tmp 2)), .none⟩,
   ⟨(.some 25), (.mv (.tmp 0)), .none⟩,
   ⟨(.some 26), (.mv (.tmp 11)), .none⟩,
   ⟨(.some 27), (.iaddr 3 (.tmp 25) (.tmp 26)), .none⟩,
   ⟨(.some 28), (.load (.some 3) (.tmp 27)), .none⟩,
   ⟨(.some 29), (.mv (.tmp 1)), .none⟩,
   ⟨(.some 30), (.call (.tmp 24) [(.tmp 28), (.tmp 29)]), .none⟩,
   ⟨(.some 31), (.bin .lss (.tmp 30) (.const (.int .i64 0))), .none⟩]
def f39g6 : List RO :=
  [⟨(.some 32), (.mv (.tmp 11)), .none⟩,
   ⟨(.some 33), (.bin .add (.tmp 32) (.const (.int .i64 1))), .none⟩,
   ⟨(.some 9), (.mv (.tmp 33)), .none⟩]
def f39g7 : List RO :=
  [⟨(.some 34), (.mv (.tmp 11)), .none⟩,
   ⟨(.some 10), (.mv (.tmp 34)), .none⟩]
def f39b8 : RCode := (.seq (.seq (.reg .false f39g3) (.cond (.tmp 17) .skip (.exit 0))) (.block 1 (.seq (.reg .false f39g4) (.seq (.reg .false f39g5) (.cond (.tmp 31) (.reg .false f39g6) (.reg .false f39g7))))))
def f39g9 : List RO :=
  [⟨(.some 35), (.mv (.tmp 9)), .none⟩,
   ⟨(.some 36), (.mv (.tmp 9)), .none⟩,
   ⟨(.some 37), (.mv (.tmp 8)), .none⟩,
   ⟨(.some 38), (.bin .lss (.tmp 36) (.tmp 37)), .none⟩,
   ⟨(.some 39), (.mv (.tmp 38)), .none⟩,
   ⟨(.some 40), (.mv (.tmp 2)), (.some (39, .true))⟩,
   ⟨(.some 41), (.mv (.tmp 0)), (.some (39, .true))⟩,
   ⟨(.some 42), (.mv (.tmp 9)), (.some (39, .true))⟩,
   ⟨(.some 43), (.iaddr 3 (.tmp 41) (.tmp 42)), (.some (39, .true))⟩,
   ⟨(.some 44), (.load (.some 3) (.tmp 43)), (.some (39, .true))⟩,
   ⟨(.some 45), (.mv (.tmp 1)), (.some (39, .true))⟩,
   ⟨(.some 46), (.call (.tmp 40) [(.tmp 44), (.tmp 45)]), (.some (39, .true))⟩,
   ⟨(.some 47), (.bin .eql (.tmp 46) (.const (.int .i64 0))), (.some (39, .true))⟩,
   ⟨(.some 48), (.pick (.tmp 39) (.tmp 47) (.const (.bool .false))), .none⟩,
   ⟨(.some 6), (.mv (.tmp 35)), .none⟩,
   ⟨(.some 7), (.mv (.tmp 48)), .none⟩]
def f39c : RCode := (.seq (.reg .false f39g0) (.seq (.reg .false f39g1) (.seq (.reg .false f39g2) (.seq (.block 0 (.loop f39b8)) (.seq (.reg .false f39g9) .ret)))))
def f39r : List RRes := [(.tmp 6), (.tmp 7)]
attribute [push_cast] f39g0 f39g1 f39g2 f39g3 f39g4 f39g5 f39g6 f39g7 f39g9
def L39_0 (N : Nat) (p0 : (List Frame)) (p1 : Int) : Nat → Int → Int → Option (Int × Bool)
  | 0, _, _ => none
  | m1+1, a1, a2 => if? (decide (a1 < a2)) (ck .i64 (a1 + a2) (ck .i64 (((IntKind.wrap .u64 ((a1 + a2))) / 2 ^ (1 : Int).toNat)) (get? p0 ((((IntKind.wrap .u64 ((a1 + a2))) / 2 ^ (1 : Int).toNat))) fun x3 => bd? (F40 N x3 p1) fun v4 => if? (decide (v4 < 0)) (ck .i64 ((((IntKind.wrap .u64 ((a1 + a2))) / 2 ^ (1 : Int).toNat)) + 1) (L39_0 N p0 p1 m1 ((((IntKind.wrap .u64 ((a1 + a2))) / 2 ^ (1 : Int).toNat)) + 1) a2)) (L39_0 N p0 p1 m1 a1 (((IntKind.wrap .u64 ((a1 + a2))) / 2 ^ (1 : Int).toNat)))))) (if? (decide (a1 < (p0.length : Int))) (get? p0 (a1) fun x5 => bd? (F40 N x5 p1) fun v6 => some (a1, (v6 == 0))) (some (a1, false)))
def I39_0 (N : Nat) (p0 : (List Frame)) (p1 : Int) (r : (Int × Bool)) (n : Nat) (s : AState) : Prop := ∃ (a1 : Int) (a2 : Int), L39_0 N p0 p1 n a1 a2 = some r ∧ s = ⟨envL [(0, .D (.L (p0.map Frame.row))), (1, .D (.I .i64 p1)), (2, .clo 40 []), (8, .D (.I .i64 (p0.length : Int))), (9, .D (.I .i64 a1)), (10, .D (.I .i64 a2))], ownL [], ownL [], 0⟩
def F39 (N : Nat) (p0 : (List Frame)) (p1 : Int) : Option (Int × Bool) := L39_0 N p0 p1 N 0 (p0.length : Int)
theorem c39 (N : Nat) (p0 : (List Frame)) (p1 : Int) (r : (Int × Bool)) (h : F39 N p0 p1 = some r) : ACall Try.prog 39 [.D (.L (p0.map Frame.row)), .D (.I .i64 p1), .clo 40 []] [] (.tup [.D (.I .i64 r.1), .D (.B r.2)]) [] [] := by
  refine ACall.of_bodyW [] (fn := Try.f39) (rc := f39c) (rs := f39r) Try.func39 rfl rfl (by kernel_rfl) (by kernel_rfl) (by kernel_rfl) (by rw [Try.ntmps39]; simp) ?_
  unfold F39 at h
  unfold f39c f39r
  rw [entry_eq _ _]
  simp (config := { maxSteps := 1000000 }) (disch := first | assumption | (simp; done) | omega | (simp; omega)) only [push_cast, reduceCtorEq, Nat.reduceEqDiff, Nat.reduceAdd, Nat.reduceSub, Nat.reduceMul, Nat.reduceLeDiff, Nat.reduceLT, Int.reduceEq, Int.reduceNe, Int.reduceLT, Int.reduceLE, Int.reduceGT, Int.reduceGE, Int.reduceBEq, Int.reduceBNe, ↓reduceIte]
  refine loop_of (I39_0 N p0 p1 _) N [0, 1, 2, 8, 9, 10] [] (by decide) ⟨0, (p0.length : Int), h, ?_⟩ ?_
  · rw [wk_mk]
    simp (config := { maxSteps := 1000000 }) (disch := first | assumption | (simp; done) | omega | (simp; omega)) only [push_cast, reduceCtorEq, Nat.reduceEqDiff, Nat.reduceAdd, Nat.reduceSub, Nat.reduceMul, Nat.reduceLeDiff, Nat.reduceLT, Int.reduceEq, Int.reduceNe, Int.reduceLT, Int.reduceLE, Int.reduceGT, Int.reduceGE, Int.reduceBEq, Int.reduceBNe, ↓reduceIte] <;> rfl
  · rintro n s ⟨a1, a2, h, rfl⟩
    cases n with
    | zero => exact absurd h (by simp [L39_0])
    | succ m1 =>
      rw [L39_0] at h
      unfold f39b8
      rcases F_if h with ⟨h187, h⟩ | ⟨h187, h⟩
      · try simp (disch := first | assumption | (simp; done) | omega | (simp; omega)) only [push_cast, reduceCtorEq, Nat.reduceEqDiff, Nat.reduceAdd, Nat.reduceSub, Nat.reduceMul, Nat.reduceLeDiff, Nat.reduceLT, Int.reduceEq, Int.reduceNe, Int.reduceLT, Int.reduceLE, Int.reduceGT, Int.reduceGE, Int.reduceBEq, Int.reduceBNe, ↓reduceIte] at h187
        obtain ⟨h188, h⟩ := F_ck h
        try simp (disch := first | assumption | (simp; done) | omega | (simp; omega)) only [push_cast, reduceCtorEq, Nat.reduceEqDiff, Nat.reduceAdd, Nat.reduceSub, Nat.reduceMul, Nat.reduceLeDiff, Nat.reduceLT, Int.reduceEq, Int.reduceNe, Int.reduceLT, Int.reduceLE, Int.reduceGT, Int.reduceGE, Int.reduceBEq, Int.reduceBNe, ↓reduceIte] at h188
        obtain ⟨h189, h⟩ := F_ck h
        try simp (disch := first | assumption | (simp; done) | omega | (simp; omega)) only [push_cast, reduceCtorEq, Nat.reduceEqDiff, Nat.reduceAdd, Nat.reduceSub, Nat.reduceMul, Nat.reduceLeDiff, Nat.reduceLT, Int.reduceEq, Int.reduceNe, Int.reduceLT, Int.reduceLE, Int.reduceGT, Int.reduceGE, Int.reduceBEq, Int.reduceBNe, ↓reduceIte] at h189
        obtain ⟨x3, h190, h191, h⟩ := F_get h
        have h193 := get_lt h190 h191
        have h192 := map_get Frame.row h191
        try simp (disch := first | assumption | (simp; done) | omega | (simp; omega)) only [push_cast, reduceCtorEq, Nat.reduceEqDiff, Nat.reduceAdd, Nat.reduceSub, Nat.reduceMul, Nat.reduceLeDiff, Nat.reduceLT, Int.reduceEq, Int.reduceNe, Int.reduceLT, Int.reduceLE, Int.reduceGT, Int.reduceGE, Int.reduceBEq, Int.reduceBNe, ↓reduceIte] at h192
        try simp (disch := first | assumption | (simp; done) | omega | (simp; omega)) only [push_cast, reduceCtorEq, Nat.reduceEqDiff, Nat.reduceAdd, Nat.reduceSub, Nat.reduceMul, Nat.reduceLeDiff, Nat.reduceLT, Int.reduceEq, Int.reduceNe, Int.reduceLT, Int.reduceLE, Int.reduceGT, Int.reduceGE, Int.reduceBEq, Int.reduceBNe, ↓reduceIte] at h193
        obtain ⟨v4, h194, h⟩ := F_bd h
        simp (config := { maxSteps := 1000000 }) (disch := first | assumption | (simp; done) | omega | (simp; omega)) only [push_cast, reduceCtorEq, Nat.reduceEqDiff, Nat.reduceAdd, Nat.reduceSub, Nat.reduceMul, Nat.reduceLeDiff, Nat.reduceLT, Int.reduceEq, Int.reduceNe, Int.reduceLT, Int.reduceLE, Int.reduceGT, Int.reduceGE, Int.reduceBEq, Int.reduceBNe, ↓reduceIte, h187, h188, h189, h190, h192, h193]
        refine call_flat (by rfl) (c40 N _ _ _ h194) ?_ rfl ?_
        · simp (config := { maxSteps := 1000000 }) (disch := first | assumption | (simp; done) | omega | (simp; omega)) only [push_cast, reduceCtorEq, Nat.reduceEqDiff, Nat.reduceAdd, Nat.reduceSub, Nat.reduceMul, Nat.reduceLeDiff, Nat.reduceLT, Int.reduceEq, Int.reduceNe, Int.reduceLT, Int.reduceLE, Int.reduceGT, Int.reduceGE, Int.reduceBEq, Int.reduceBNe, ↓reduceIte, h187, h188, h189, h190, h192, h193] <;> rfl
        rcases F_if h with ⟨h195, h⟩ | ⟨h195, h⟩
        · try simp (disch := first | assumption | (simp; done) | omega | (simp; omega)) only [push_cast, reduceCtorEq, Nat.reduceEqDiff, Nat.reduceAdd, Nat.reduceSub, Nat.reduceMul, Nat.reduceLeDiff, Nat.reduceLT, Int.reduceEq, Int.reduceNe, Int.reduceLT, Int.reduceLE, Int.reduceGT, Int.reduceGE, Int.reduceBEq, Int.reduceBNe, ↓reduceIte] at h195
          obtain ⟨h196, h⟩ := F_ck h
          try simp (disch := first | assumption | (simp; done) | omega | (simp; omega)) only [push_cast, reduceCtorEq, Nat.reduceEqDiff, Nat.reduceAdd, Nat.reduceSub, Nat.reduceMul, Nat.reduceLeDiff, Nat.reduceLT, Int.reduceEq, Int.reduceNe, Int.reduceLT, Int.reduceLE, Int.reduceGT, Int.reduceGE, Int.reduceBEq, Int.reduceBNe, ↓reduceIte] at h196
          simp (config := { maxSteps := 1000000 }) (disch := first | assumption | (simp; done) | omega | (simp; omega)) only [push_cast, reduceCtorEq, Nat.reduceEqDiff, Nat.reduceAdd, Nat.reduceSub, Nat.reduceMul, Nat.reduceLeDiff, Nat.reduceLT, Int.reduceEq, Int.reduceNe, Int.reduceLT, Int.reduceLE, Int.reduceGT, Int.reduceGE, Int.reduceBEq, Int.reduceBNe, ↓reduceIte, h187, h188, h189, h190, h192, h193, h195, h196]
          refine lpK_of m1 [0, 1, 2, 8, 9, 10] [] (by omega) (by decide) ⟨((((IntKind.wrap .u64 ((a1 + a2))) / 2 ^ (1 : Int).toNat)) + 1), a2, h, ?_⟩
          rw [wk_mk]
          simp (config := { maxSteps := 1000000 }) (disch := first | assumption | (simp; done) | omega | (simp; omega)) only [push_cast, reduceCtorEq, Nat.reduceEqDiff, Nat.reduceAdd, Nat.reduceSub, Nat.reduceMul, Nat.reduceLeDiff, Nat.reduceLT, Int.reduceEq, Int.reduceNe, Int.reduceLT, Int.reduceLE, Int.reduceGT, Int.reduceGE, Int.reduceBEq, Int.reduceBNe, ↓reduceIte, h187, h188, h189, h190, h192, h193, h195, h196] <;> rfl
        · try simp (disch := first | assumption | (simp; done) | omega | (simp; omega)) only [push_cast, reduceCtorEq, Nat.reduceEqDiff, Nat.reduceAdd, Nat.reduceSub, Nat.reduceMul, Nat.reduceLeDiff, Nat.reduceLT, Int.reduceEq, Int.reduceNe, Int.reduceLT, Int.reduceLE, Int.reduceGT, Int.reduceGE, Int.reduceBEq, Int.reduceBNe, ↓reduceIte] at h195
          simp (config := { maxSteps := 1000000 }) (disch := first | assumption | (simp; done) | omega | (simp; omega)) only [push_cast, reduceCtorEq, Nat.reduceEqDiff, Nat.reduceAdd, Nat.reduceSub, Nat.reduceMul, Nat.reduceLeDiff, Nat.reduceLT, Int.reduceEq, Int.reduceNe, Int.reduceLT, Int.reduceLE, Int.reduceGT, Int.reduceGE, Int.reduceBEq, Int.reduceBNe, ↓reduceIte, h187, h188, h189, h190, h192, h193, h195]
          refine lpK_of m1 [0, 1, 2, 8, 9, 10] [] (by omega) (by decide) ⟨a1, (((IntKind.wrap .u64 ((a1 + a2))) / 2 ^ (1 : Int).toNat)), h, ?_⟩
          rw [wk_mk]
          simp (config := { maxSteps := 1000000 }) (disch := first | assumption | (simp; done) | omega | (simp; omega)) only [push_cast, reduceCtorEq, Nat.reduceEqDiff, Nat.reduceAdd, Nat.reduceSub, Nat.reduceMul, Nat.reduceLeDiff, Nat.reduceLT, Int.reduceEq, Int.reduceNe, Int.reduceLT, Int.reduceLE, Int.reduceGT, Int.reduceGE, Int.reduceBEq, Int.reduceBNe, ↓reduceIte, h187, h188, h189, h190, h192, h193, h195] <;> rfl
      · try simp (disch := first | assumption | (simp; done) | omega | (simp; omega)) only [push_cast, reduceCtorEq, Nat.reduceEqDiff, Nat.reduceAdd, Nat.reduceSub, Nat.reduceMul, Nat.reduceLeDiff, Nat.reduceLT, Int.reduceEq, Int.reduceNe, Int.reduceLT, Int.reduceLE, Int.reduceGT, Int.reduceGE, Int.reduceBEq, Int.reduceBNe, ↓reduceIte] at h187
        rcases F_if h with ⟨h197, h⟩ | ⟨h197, h⟩
        · try simp (disch := first | assumption | (simp; done) | omega | (simp; omega)) only [push_cast, reduceCtorEq, Nat.reduceEqDiff, Nat.reduceAdd, Nat.reduceSub, Nat.reduceMul, Nat.reduceLeDiff, Nat.reduceLT, Int.reduceEq, Int.reduceNe, Int.reduceLT, Int.reduceLE, Int.reduceGT, Int.reduceGE, Int.reduceBEq, Int.reduceBNe, ↓reduceIte] at h197
          obtain ⟨x5, h198, h199, h⟩ := F_get h
          have h201 := get_lt h198 h199
          have h200 := map_get Frame.row h199
          try simp (disch := first | assumption | (simp; done) | omega | (simp; omega)) only [push_cast, reduceCtorEq, Nat.reduceEqDiff, Nat.reduceAdd, Nat.reduceSub, Nat.reduceMul, Nat.reduceLeDiff, Nat.reduceLT, Int.reduceEq, Int.reduceNe, Int.reduceLT, Int.reduceLE, Int.reduceGT, Int.reduceGE, Int.reduceBEq, Int.reduceBNe, ↓reduceIte] at h200
          try simp (disch := first | assumption | (simp; done) | omega | (simp; omega)) only [push_cast, reduceCtorEq, Nat.reduceEqDiff, Nat.reduceAdd, Nat.reduceSub, Nat.reduceMul, Nat.reduceLeDiff, Nat.reduceLT, Int.reduceEq, Int.reduceNe, Int.reduceLT, Int.reduceLE, Int.reduceGT, Int.reduceGE, Int.reduceBEq, Int.reduceBNe, ↓reduceIte] at h201
          obtain ⟨v6, h202, h⟩ := F_bd h
          simp (config := { maxSteps := 1000000 }) (disch := first | assumption | (simp; done) | omega | (simp; omega)) only [push_cast, reduceCtorEq, Nat.reduceEqDiff, Nat.reduceAdd, Nat.reduceSub, Nat.reduceMul, Nat.reduceLeDiff, Nat.reduceLT, Int.reduceEq, Int.reduceNe, Int.reduceLT, Int.reduceLE, Int.reduceGT, Int.reduceGE, Int.reduceBEq, Int.reduceBNe, ↓reduceIte, h187, h197, h198, h200, h201]
          refine call_flat (by rfl) (c40 N _ _ _ h202) ?_ rfl ?_
          · simp (config := { maxSteps := 1000000 }) (disch := first | assumption | (simp; done) | omega | (simp; omega)) only [push_cast, reduceCtorEq, Nat.reduceEqDiff, Nat.reduceAdd, Nat.reduceSub, Nat.reduceMul, Nat.reduceLeDiff, Nat.reduceLT, Int.reduceEq, Int.reduceNe, Int.reduceLT, Int.reduceLE, Int.reduceGT, Int.reduceGE, Int.reduceBEq, Int.reduceBNe, ↓reduceIte, h187, h197, h198, h200, h201] <;> rfl
          obtain rfl := Option.some.inj h
          simp (config := { maxSteps := 1000000 }) (disch := first | assumption | (simp; done) | omega | (simp; omega)) only [push_cast, reduceCtorEq, Nat.reduceEqDiff, Nat.reduceAdd, Nat.reduceSub, Nat.reduceMul, Nat.reduceLeDiff, Nat.reduceLT, Int.reduceEq, Int.reduceNe, Int.reduceLT, Int.reduceLE, Int.reduceGT, Int.reduceGE, Int.reduceBEq, Int.reduceBNe, ↓reduceIte, h187, h197, h198, h200, h201]
          refine e_ret (.inr rfl) ?_
          simp (config := { maxSteps := 1000000 }) (disch := first | assumption | (simp; done) | omega | (simp; omega)) only [push_cast, reduceCtorEq, Nat.reduceEqDiff, Nat.reduceAdd, Nat.reduceSub, Nat.reduceMul, Nat.reduceLeDiff, Nat.reduceLT, Int.reduceEq, Int.reduceNe, Int.reduceLT, Int.reduceLE, Int.reduceGT, Int.reduceGE, Int.reduceBEq, Int.reduceBNe, ↓reduceIte, aret, aresults, aresult, h187, h197, h198, h200, h201]
          refine ⟨_, rfl, ?_⟩
          first | (simp (config := { maxSteps := 1000000 }) (disch := first | assumption | (simp; done) | omega | (simp; omega)) only [push_cast, reduceCtorEq, Nat.reduceEqDiff, Nat.reduceAdd, Nat.reduceSub, Nat.reduceMul, Nat.reduceLeDiff, Nat.reduceLT, Int.reduceEq, Int.reduceNe, Int.reduceLT, Int.reduceLE, Int.reduceGT, Int.reduceGE, Int.reduceBEq, Int.reduceBNe, ↓reduceIte, h187, h197, h198, h200, h201] <;> rfl) | rfl
        · try simp (disch := first | assumption | (simp; done) | omega | (simp; omega)) only [push_cast, reduceCtorEq, Nat.reduceEqDiff, Nat.reduceAdd, Nat.reduceSub, Nat.reduceMul, Nat.reduceLeDiff, Nat.reduceLT, Int.reduceEq, Int.reduceNe, Int.reduceLT, Int.reduceLE, Int.reduceGT, Int.reduceGE, Int.reduceBEq, Int.reduceBNe, ↓reduceIte] at h197
          obtain rfl := Option.some.inj h
          simp (config := { maxSteps := 1000000 }) (disch := first | assumption | (simp; done) | omega | (simp; omega)) only [push_cast, reduceCtorEq, Nat.reduceEqDiff, Nat.reduceAdd, Nat.reduceSub, Nat.reduceMul, Nat.reduceLeDiff, Nat.reduceLT, Int.reduceEq, Int.reduceNe, Int.reduceLT, Int.reduceLE, Int.reduceGT, Int.reduceGE, Int.reduceBEq, Int.reduceBNe, ↓reduceIte, h187, h197]
          refine e_ret (.inr rfl) ?_
          simp (config := { maxSteps := 1000000 }) (disch := first | assumption | (simp; done) | omega | (simp; omega)) only [push_cast, reduceCtorEq, Nat.reduceEqDiff, Nat.reduceAdd, Nat.reduceSub, Nat.reduceMul, Nat.reduceLeDiff, Nat.reduceLT, Int.reduceEq, Int.reduceNe, Int.reduceLT, Int.reduceLE, Int.reduceGT, Int.reduceGE, Int.reduceBEq, Int.reduceBNe, ↓reduceIte, aret, aresults, aresult, h187, h197]
          refine ⟨_, rfl, ?_⟩
          first | (simp (config := { maxSteps := 1000000 }) (disch := first | assumption | (simp; done) | omega | (simp; omega)) only [push_cast, reduceCtorEq, Nat.reduceEqDiff, Nat.reduceAdd, Nat.reduceSub, Nat.reduceMul, Nat.reduceLeDiff, Nat.reduceLT, Int.reduceEq, Int.reduceNe, Int.reduceLT, Int.reduceLE, Int.reduceGT, Int.reduceGE, Int.reduceBEq, Int.reduceBNe, ↓reduceIte, h187, h197] <;> rfl) | rfl

/-! ## 42 slices.Clone[[]rivermark.api.Frame,rivermark.api.Frame] -/
def f42g0 : List RO :=
  [⟨(.some 2), (.mv (.const (.slice .none 0 0))), .none⟩]
def f42g1 : List RO :=
  [⟨(.some 3), (.mv (.tmp 0)), .none⟩,
   ⟨(.some 4), (.isnil .false (.tmp 3)), .none⟩]
def f42g2 : List RO :=
  [⟨(.some 2), (.mv (.const (.slice .none 0 0))), .none⟩]
def f42g3 : List RO :=
  [⟨(.some 5), (.bslice 3 []), .none⟩,
   ⟨(.some 6), (.mv (.tmp 0)), .none⟩,
   ⟨(.some 7), (.app 3 32 (.tmp 5) (.tmp 6)), .none⟩,
   ⟨(.some 2), (.mv (.tmp 7)), .none⟩]
def f42c : RCode := (.seq (.reg .false f42g0) (.seq (.seq (.reg .false f42g1) (.cond (.tmp 4) (.seq (.reg .false f42g2) .ret) .skip)) (.seq (.reg .false f42g3) .ret)))
def f42r : List RRes := [(.tmp 2)]
attribute [push_cast] f42g0 f42g1 f42g2 f42g3
def F42 (N : Nat) (p0 : (List Frame)) : Option (List Frame) := if? p0.isEmpty (some ([])) (gd? (p0.length * 32 ≤ 140737488355328) (some (p0)))
theorem c42 (N : Nat) (p0 : (List Frame)) (r : (List Frame)) (h : F42 N p0 = some r) : ACall Try.prog 42 [.D (.L (p0.map Frame.row))] [] (.sl (.O 0) 3 0 r.length) [] [.row true 3 (r.map Frame.row)] := by
  refine ACall.of_bodyW [] (fn := Try.f42) (rc := f42c) (rs := f42r) Try.func42 rfl rfl (by kernel_rfl) (by kernel_rfl) (by kernel_rfl) (by rw [Try.ntmps42]; simp) ?_
  unfold F42 at h
  unfold f42c f42r
  rw [entry_eq _ _]
  rcases F_if h with ⟨h203, h⟩ | ⟨h203, h⟩
  · have h204 := List.isEmpty_iff.1 h203
    simp (config := { maxSteps := 1000000 }) (disch := first | assumption | (simp; done) | omega | (simp; omega)) only [push_cast, reduceCtorEq, Nat.reduceEqDiff, Nat.reduceAdd, Nat.reduceSub, Nat.reduceMul, Nat.reduceLeDiff, Nat.reduceLT, Int.reduceEq, Int.reduceNe, Int.reduceLT, Int.reduceLE, Int.reduceGT, Int.reduceGE, Int.reduceBEq, Int.reduceBNe, ↓reduceIte, h204]
    refine cd_ab ?_ ?_
    · obtain rfl := Option.some.inj h
      simp (config := { maxSteps := 1000000 }) (disch := first | assumption | (simp; done) | omega | (simp; omega)) only [push_cast, reduceCtorEq, Nat.reduceEqDiff, Nat.reduceAdd, Nat.reduceSub, Nat.reduceMul, Nat.reduceLeDiff, Nat.reduceLT, Int.reduceEq, Int.reduceNe, Int.reduceLT, Int.reduceLE, Int.reduceGT, Int.reduceGE, Int.reduceBEq, Int.reduceBNe, ↓reduceIte, h204]
      refine end_own0 2 3 rfl ?_
      simp (config := { maxSteps := 1000000 }) (disch := first | assumption | (simp; done) | omega | (simp; omega)) only [push_cast, reduceCtorEq, Nat.reduceEqDiff, Nat.reduceAdd, Nat.reduceSub, Nat.reduceMul, Nat.reduceLeDiff, Nat.reduceLT, Int.reduceEq, Int.reduceNe, Int.reduceLT, Int.reduceLE, Int.reduceGT, Int.reduceGE, Int.reduceBEq, Int.reduceBNe, ↓reduceIte, h204]
      refine AEndW.of [0] (.inr rfl) (by decide) rfl ?_ rfl ?_
      · simp (config := { maxSteps := 1000000 }) (disch := first | assumption | (simp; done) | omega | (simp; omega)) only [push_cast, reduceCtorEq, Nat.reduceEqDiff, Nat.reduceAdd, Nat.reduceSub, Nat.reduceMul, Nat.reduceLeDiff, Nat.reduceLT, Int.reduceEq, Int.reduceNe, Int.reduceLT, Int.reduceLE, Int.reduceGT, Int.reduceGE, Int.reduceBEq, Int.reduceBNe, ↓reduceIte, h204] <;> rfl
      · simp (config := { maxSteps := 1000000 }) (disch := first | assumption | (simp; done) | omega | (simp; omega)) only [push_cast, reduceCtorEq, Nat.reduceEqDiff, Nat.reduceAdd, Nat.reduceSub, Nat.reduceMul, Nat.reduceLeDiff, Nat.reduceLT, Int.reduceEq, Int.reduceNe, Int.reduceLT, Int.reduceLE, Int.reduceGT, Int.reduceGE, Int.reduceBEq, Int.reduceBNe, ↓reduceIte, h204] <;> rfl
    · obtain rfl := Option.some.inj h
      simp (config := { maxSteps := 1000000 }) (disch := first | assumption | (simp; done) | omega | (simp; omega)) only [push_cast, reduceCtorEq, Nat.reduceEqDiff, Nat.reduceAdd, Nat.reduceSub, Nat.reduceMul, Nat.reduceLeDiff, Nat.reduceLT, Int.reduceEq, Int.reduceNe, Int.reduceLT, Int.reduceLE, Int.reduceGT, Int.reduceGE, Int.reduceBEq, Int.reduceBNe, ↓reduceIte, h204]
      refine AEndW.of [0] (.inr rfl) (by decide) rfl ?_ rfl ?_
      · simp (config := { maxSteps := 1000000 }) (disch := first | assumption | (simp; done) | omega | (simp; omega)) only [push_cast, reduceCtorEq, Nat.reduceEqDiff, Nat.reduceAdd, Nat.reduceSub, Nat.reduceMul, Nat.reduceLeDiff, Nat.reduceLT, Int.reduceEq, Int.reduceNe, Int.reduceLT, Int.reduceLE, Int.reduceGT, Int.reduceGE, Int.reduceBEq, Int.reduceBNe, ↓reduceIte, h204] <;> rfl
      · simp (config := { maxSteps := 1000000 }) (disch := first | assumption | (simp; done) | omega | (simp; omega)) only [push_cast, reduceCtorEq, Nat.reduceEqDiff, Nat.reduceAdd, Nat.reduceSub, Nat.reduceMul, Nat.reduceLeDiff, Nat.reduceLT, Int.reduceEq, Int.reduceNe, Int.reduceLT, Int.reduceLE, Int.reduceGT, Int.reduceGE, Int.reduceBEq, Int.reduceBNe, ↓reduceIte, h204] <;> rfl
  · have h204 := isEmpty_no h203
    have h205 := map_no Frame.row h204
    try simp (disch := first | assumption | (simp; done) | omega | (simp; omega)) only [push_cast, reduceCtorEq, Nat.reduceEqDiff, Nat.reduceAdd, Nat.reduceSub, Nat.reduceMul, Nat.reduceLeDiff, Nat.reduceLT, Int.reduceEq, Int.reduceNe, Int.reduceLT, Int.reduceLE, Int.reduceGT, Int.reduceGE, Int.reduceBEq, Int.reduceBNe, ↓reduceIte] at h205
    have h206 := len_no h204
    obtain ⟨h207, h⟩ := F_gd h
    try simp (disch := first | assumption | (simp; done) | omega | (simp; omega)) only [push_cast, reduceCtorEq, Nat.reduceEqDiff, Nat.reduceAdd, Nat.reduceSub, Nat.reduceMul, Nat.reduceLeDiff, Nat.reduceLT, Int.reduceEq, Int.reduceNe, Int.reduceLT, Int.reduceLE, Int.reduceGT, Int.reduceGE, Int.reduceBEq, Int.reduceBNe, ↓reduceIte] at h207
    obtain rfl := Option.some.inj h
    simp (config := { maxSteps := 1000000 }) (disch := first | assumption | (simp; done) | omega | (simp; omega)) only [push_cast, reduceCtorEq, Nat.reduceEqDiff, Nat.reduceAdd, Nat.reduceSub, Nat.reduceMul, Nat.reduceLeDiff, Nat.reduceLT, Int.reduceEq, Int.reduceNe, Int.reduceLT, Int.reduceLE, Int.reduceGT, Int.reduceGE, Int.reduceBEq, Int.reduceBNe, ↓reduceIte, h207]
    refine AEndW.of [0] (.inr rfl) (by decide) rfl ?_ rfl ?_
    · simp (config := { maxSteps := 1000000 }) (disch := first | assumption | (simp; done) | omega | (simp; omega)) only [push_cast, reduceCtorEq, Nat.reduceEqDiff, Nat.reduceAdd, Nat.reduceSub, Nat.reduceMul, Nat.reduceLeDiff, Nat.reduceLT, Int.reduceEq, Int.reduceNe, Int.reduceLT, Int.reduceLE, Int.reduceGT, Int.reduceGE, Int.reduceBEq, Int.reduceBNe, ↓reduceIte, h207] <;> rfl
    · simp (config := { maxSteps := 1000000 }) (disch := first | assumption | (simp; done) | omega | (simp; omega)) only [push_cast, reduceCtorEq, Nat.reduceEqDiff, Nat.reduceAdd, Nat.reduceSub, Nat.reduceMul, Nat.reduceLeDiff, Nat.reduceLT, Int.reduceEq, Int.reduceNe, Int.reduceLT, Int.reduceLE, Int.reduceGT, Int.reduceGE, Int.reduceBEq, Int.reduceBNe, ↓reduceIte, h207] <;> rfl

/-! ## 44 rivermark.link.Receive$2 -/
def f44g0 : List RO :=
  [⟨(.some 3), (.box (.tmp 0)), .none⟩,
   ⟨(.some 4), (.mv (.const (.bool .false))), .none⟩]
def f44g1 : List RO :=
  [⟨(.some 5), (.faddr 1 (.tmp 3)), .none⟩,
   ⟨(.some 6), (.load .none (.tmp 5)), .none⟩,
   ⟨(.some 7), (.faddr 0 (.tmp 1)), .none⟩,
   ⟨(.some 8), (.load .none (.tmp 7)), .none⟩,
   ⟨(.some 9), (.bin .eql (.tmp 6) (.tmp 8)), .none⟩]
def f44g2 : List RO :=
  [⟨(.some 10), (.load .none (.tmp 2)), .none⟩,
   ⟨(.some 11), (.load (.some 3) (.tmp 3)), .none⟩,
   ⟨(.some 12), (.bslice 3 [(.tmp 11)]), .none⟩,
   ⟨(.some 13), (.appE 3 32 (.tmp 10) (.tmp 12)), .none⟩,
   ⟨.none, (.store 1 (.tmp 2) (.tmp 13)), .none⟩]
def f44g3 : List RO :=
  [⟨(.some 14), (.faddr 0 (.tmp 1)), .none⟩,
   ⟨(.some 15), (.load .none (.tmp 14)), .none⟩,
   ⟨(.some 16), (.bin .add (.tmp 15) (.const (.int .i64 1))), .none⟩,
   ⟨(.some 17), (.faddr 0 (.tmp 1)), .none⟩,
   ⟨.none, (.store 1 (.tmp 17) (.tmp 16)), .none⟩]
def f44g4 : List RO :=
  [⟨(.some 4), (.mv (.const (.bool .true))), .none⟩]
def f44g5 : List RO :=
  [⟨(.some 18), (.faddr 1 (.tmp 3)), .none⟩,
   ⟨(.some 19), (.load .none (.tmp 18)), .none⟩,
   ⟨(.some 20), (.faddr 0 (.tmp 1)), .none⟩,
   ⟨(.some 21), (.load .none (.tmp 20)), .none⟩,
   ⟨(.some 22), (.bin .lss (.tmp 19) (.tmp 21)), .none⟩,
   ⟨(.some 4), (.mv (.tmp 22)), .none⟩]
def f44c : RCode := (.seq (.reg .false f44g0) (.seq (.seq (.reg .false f44g1) (.cond (.tmp 9) (.seq (.reg .false f44g2) (.seq (.reg .false f44g3) (.seq (.reg .false f44g4) .ret))) .skip)) (.seq (.reg .false f44g5) .ret)))
def f44r : List RRes := [(.tmp 4)]
attribute [push_cast] f44g0 f44g1 f44g2 f44g3 f44g4 f44g5
def F44 (N : Nat) (p0 : Frame) (q0 : Inbox) (q1 : (List Frame)) : Option (Bool × Inbox × (List Frame)) := if? ((p0.Seq == q0.Next)) (gd? ((q1.length + [p0].length) * 32 ≤ 140737488355328) (ck .i64 (q0.Next + 1) (some (true, (Inbox.mk (q0.Next + 1) q0.Ahead), (q1 ++ [p0]))))) (some (decide (p0.Seq < q0.Next), q0, q1))
theorem c44 (N : Nat) (p0 : Frame) (q0 : Inbox) (q1 : (List Frame)) (r : (Bool × Inbox × (List Frame))) (h : F44 N p0 q0 q1 = some r) : ACall Try.prog 44 [.agg [.D (.B p0.Sum), .D (.I .i64 p0.Seq), .D (.S p0.Body)], .ptr (.B 0) 0, .ptr (.B 1) 0] [some (.box [.D (.I .i64 q0.Next), .D (.L (q0.Ahead.map Frame.row))]), some (.box [.sl (.B 2) 3 0 q1.length]), some (.row true 3 (q1.map Frame.row))] (.D (.B r.1)) [some (.box [.D (.I .i64 r.2.1.Next), .D (.L (r.2.1.Ahead.map Frame.row))]), some (.box [.sl (.O 0) 3 0 r.2.2.length]), none] [.row true 3 (r.2.2.map Frame.row)] := by
  refine ACall.of_bodyM [13] [2] (fn := Try.f44) (rc := f44c) (rs := f44r) Try.func44 rfl rfl (by kernel_rfl) (by kernel_rfl) (by kernel_rfl) (by rw [Try.ntmps44]; simp) (by decide) ?_
  unfold F44 at h
  unfold f44c f44r
  rw [entryM_eq _ _ _ _ _ (by simp (config := { maxSteps := 1000000 }) (disch := first | assumption | (simp; done) | omega | (simp; omega)) only [push_cast, reduceCtorEq, Nat.reduceEqDiff, Nat.reduceAdd, Nat.reduceSub, Nat.reduceMul, Nat.reduceLeDiff, Nat.reduceLT, Int.reduceEq, Int.reduceNe, Int.reduceLT, Int.reduceLE, Int.reduceGT, Int.reduceGE, Int.reduceBEq, Int.reduceBNe, ↓reduceIte] <;> rfl) (by simp (config := { maxSteps := 1000000 }) (disch := first | assumption | (simp; done) | omega | (simp; omega)) only [push_cast, reduceCtorEq, Nat.reduceEqDiff, Nat.reduceAdd, Nat.reduceSub, Nat.reduceMul, Nat.reduceLeDiff, Nat.reduceLT, Int.reduceEq, Int.reduceNe, Int.reduceLT, Int.reduceLE, Int.reduceGT, Int.reduceGE, Int.reduceBEq, Int.reduceBNe, ↓reduceIte] <;> rfl)]
  rcases F_if h with ⟨h208, h⟩ | ⟨h208, h⟩
  · try simp (disch := first | assumption | (simp; done) | omega | (simp; omega)) only [push_cast, reduceCtorEq, Nat.reduceEqDiff, Nat.reduceAdd, Nat.reduceSub, Nat.reduceMul, Nat.reduceLeDiff, Nat.reduceLT, Int.reduceEq, Int.reduceNe, Int.reduceLT, Int.reduceLE, Int.reduceGT, Int.reduceGE, Int.reduceBEq, Int.reduceBNe, ↓reduceIte] at h208
    obtain ⟨h209, h⟩ := F_gd h
    try simp (disch := first | assumption | (simp; done) | omega | (simp; omega)) only [push_cast, reduceCtorEq, Nat.reduceEqDiff, Nat.reduceAdd, Nat.reduceSub, Nat.reduceMul, Nat.reduceLeDiff, Nat.reduceLT, Int.reduceEq, Int.reduceNe, Int.reduceLT, Int.reduceLE, Int.reduceGT, Int.reduceGE, Int.reduceBEq, Int.reduceBNe, ↓reduceIte] at h209
    obtain ⟨h210, h⟩ := F_ck h
    try simp (disch := first | assumption | (simp; done) | omega | (simp; omega)) only [push_cast, reduceCtorEq, Nat.reduceEqDiff, Nat.reduceAdd, Nat.reduceSub, Nat.reduceMul, Nat.reduceLeDiff, Nat.reduceLT, Int.reduceEq, Int.reduceNe, Int.reduceLT, Int.reduceLE, Int.reduceGT, Int.reduceGE, Int.reduceBEq, Int.reduceBNe, ↓reduceIte] at h210
    obtain rfl := Option.some.inj h
    simp (config := { maxSteps := 1000000 }) (disch := first | assumption | (simp; done) | omega | (simp; omega)) only [push_cast, reduceCtorEq, Nat.reduceEqDiff, Nat.reduceAdd, Nat.reduceSub, Nat.reduceMul, Nat.reduceLeDiff, Nat.reduceLT, Int.reduceEq, Int.reduceNe, Int.reduceLT, Int.reduceLE, Int.reduceGT, Int.reduceGE, Int.reduceBEq, Int.reduceBNe, ↓reduceIte, h208, h209, h210]
    refine AEndW.of [3] (.inr rfl) (by decide) rfl ?_ ?_ ?_
    · simp (config := { maxSteps := 1000000 }) (disch := first | assumption | (simp; done) | omega | (simp; omega)) only [push_cast, reduceCtorEq, Nat.reduceEqDiff, Nat.reduceAdd, Nat.reduceSub, Nat.reduceMul, Nat.reduceLeDiff, Nat.reduceLT, Int.reduceEq, Int.reduceNe, Int.reduceLT, Int.reduceLE, Int.reduceGT, Int.reduceGE, Int.reduceBEq, Int.reduceBNe, ↓reduceIte, h208, h209, h210] <;> rfl
    · simp (config := { maxSteps := 1000000 }) (disch := first | assumption | (simp; done) | omega | (simp; omega)) only [push_cast, reduceCtorEq, Nat.reduceEqDiff, Nat.reduceAdd, Nat.reduceSub, Nat.reduceMul, Nat.reduceLeDiff, Nat.reduceLT, Int.reduceEq, Int.reduceNe, Int.reduceLT, Int.reduceLE, Int.reduceGT, Int.reduceGE, Int.reduceBEq, Int.reduceBNe, ↓reduceIte, h208, h209, h210] <;> rfl
    · simp (config := { maxSteps := 1000000 }) (disch := first | assumption | (simp; done) | omega | (simp; omega)) only [push_cast, reduceCtorEq, Nat.reduceEqDiff, Nat.reduceAdd, Nat.reduceSub, Nat.reduceMul, Nat.reduceLeDiff, Nat.reduceLT, Int.reduceEq, Int.reduceNe, Int.reduceLT, Int.reduceLE, Int.reduceGT, Int.reduceGE, Int.reduceBEq, Int.reduceBNe, ↓reduceIte, h208, h209, h210] <;> rfl
  · try simp (disch := first | assumption | (simp; done) | omega | (simp; omega)) only [push_cast, reduceCtorEq, Nat.reduceEqDiff, Nat.reduceAdd, Nat.reduceSub, Nat.reduceMul, Nat.reduceLeDiff, Nat.reduceLT, Int.reduceEq, Int.reduceNe, Int.reduceLT, Int.reduceLE, Int.reduceGT, Int.reduceGE, Int.reduceBEq, Int.reduceBNe, ↓reduceIte] at h208
    obtain rfl := Option.some.inj h
    simp (config := { maxSteps := 1000000 }) (disch := first | assumption | (simp; done) | omega | (simp; omega)) only [push_cast, reduceCtorEq, Nat.reduceEqDiff, Nat.reduceAdd, Nat.reduceSub, Nat.reduceMul, Nat.reduceLeDiff, Nat.reduceLT, Int.reduceEq, Int.reduceNe, Int.reduceLT, Int.reduceLE, Int.reduceGT, Int.reduceGE, Int.reduceBEq, Int.reduceBNe, ↓reduceIte, h208]
    refine AEndW.of [0] (.inr rfl) (by decide) rfl ?_ ?_ ?_
    · simp (config := { maxSteps := 1000000 }) (disch := first | assumption | (simp; done) | omega | (simp; omega)) only [push_cast, reduceCtorEq, Nat.reduceEqDiff, Nat.reduceAdd, Nat.reduceSub, Nat.reduceMul, Nat.reduceLeDiff, Nat.reduceLT, Int.reduceEq, Int.reduceNe, Int.reduceLT, Int.reduceLE, Int.reduceGT, Int.reduceGE, Int.reduceBEq, Int.reduceBNe, ↓reduceIte, h208] <;> rfl
    · simp (config := { maxSteps := 1000000 }) (disch := first | assumption | (simp; done) | omega | (simp; omega)) only [push_cast, reduceCtorEq, Nat.reduceEqDiff, Nat.reduceAdd, Nat.reduceSub, Nat.reduceMul, Nat.reduceLeDiff, Nat.reduceLT, Int.reduceEq, Int.reduceNe, Int.reduceLT, Int.reduceLE, Int.reduceGT, Int.reduceGE, Int.reduceBEq, Int.reduceBNe, ↓reduceIte, h208] <;> rfl
    · simp (config := { maxSteps := 1000000 }) (disch := first | assumption | (simp; done) | omega | (simp; omega)) only [push_cast, reduceCtorEq, Nat.reduceEqDiff, Nat.reduceAdd, Nat.reduceSub, Nat.reduceMul, Nat.reduceLeDiff, Nat.reduceLT, Int.reduceEq, Int.reduceNe, Int.reduceLT, Int.reduceLE, Int.reduceGT, Int.reduceGE, Int.reduceBEq, Int.reduceBNe, ↓reduceIte, h208] <;> rfl

/-! ## 52 slices.IndexFunc[[]rivermark.api.Frame,rivermark.api.Frame] -/
def f52g0 : List RO :=
  [⟨(.some 4), (.mv (.const (.int .i64 0))), .none⟩]
def f52g1 : List RO :=
  [⟨(.some 6), (.mv (.tmp 0)), .none⟩,
   ⟨(.some 7), (.len .false (.tmp 6)), .none⟩,
   ⟨(.some 8), (.mv (.const (.int .i64 0))), .none⟩]
def f52g2 : List RO :=
  [⟨(.some 9), (.bin .lss (.tmp 8) (.tmp 7)), .none⟩]
def f52g3 : List RO :=
  [⟨(.some 10), (.mv (.tmp 8)), .none⟩,
   ⟨(.some 5), (.mv (.tmp 10)), .none⟩]
def f52g4 : List RO :=
  [⟨(.some 11), (.mv (.tmp 1)), .none⟩,
   ⟨(.some 12), (.mv (.tmp 0)), .none⟩,
   ⟨(.some 13), (.mv (.tmp 5)), .none⟩,
   ⟨(.some 14), (.iaddr 3 (.tmp 12) (.tmp 13)), .none⟩,
   ⟨(.some 15), (.load (.some 3) (.tmp 14)), .none⟩,
   ⟨(.some 16), (.callE (.tmp 11) [(.tmp 15)]), .none⟩]
def f52g5 : List RO :=
  [⟨(.some 17), (.mv (.tmp 5)), .none⟩,
   ⟨(.some 4), (.mv (.tmp 17)), .none⟩]
def f52g6 : List RO :=
  [⟨(.some 18), (.bin .add (.tmp 8) (.const (.int .i64 1))), .none⟩,
   ⟨(.some 8), (.mv (.tmp 18)), .none⟩]
def f52b7 : RCode := (.seq (.reg .false f52g2) (.seq (.cond (.tmp 9) .skip (.exit 0)) (.seq (.block 1 (.seq (.reg .false f52g3) (.seq (.reg .false f52g4) (.cond (.tmp 16) (.seq (.reg .false f52g5) .ret) .skip)))) (.reg .false f52g6))))
def f52g8 : List RO :=
  [⟨(.some 4), (.mv (.const (.int .i64 (-1)))), .none⟩]
def f52c : RCode := (.seq (.reg .false f52g0) (.seq (.seq (.reg .false f52g1) (.block 0 (.loop f52b7))) (.seq (.reg .false f52g8) .ret)))
def f52r : List RRes := [(.tmp 4)]
attribute [push_cast] f52g0 f52g1 f52g2 f52g3 f52g4 f52g5 f52g6 f52g8
def L52_0 (N : Nat) (q0 : (List Frame)) : Nat → Int → (List Frame) → Int → (List Frame) → Option (Int × (List Frame) × Inbox × (List Frame))
  | 0, _, _, _, _ => none
  | m1+1, a1, a2, a3, a4 => if? (decide (a1 < (q0.length : Int))) (get? q0 (a1) fun x5 => bd? (F44 N x5 (Inbox.mk a3 a4) a2) fun v6 => if? (v6.1) (some (a1, q0, v6.2.1, v6.2.2)) (ck .i64 (a1 + 1) (L52_0 N q0 m1 (a1 + 1) v6.2.2 v6.2.1.Next v6.2.1.Ahead))) (some ((-1), q0, (Inbox.mk a3 a4), a2))
def I52_0 (N : Nat) (q0 : (List Frame)) (r : (Int × (List Frame) × Inbox × (List Frame))) (n : Nat) (s : AState) : Prop := ∃ (a1 : Int) (a2 : (List Frame)) (a3 : Int) (a4 : (List Frame)), L52_0 N q0 n a1 a2 a3 a4 = some r ∧ s = ⟨envL [(0, .sl (.B 0) 3 0 q0.length), (1, .clo 44 [.ptr (.B 1) 0, .ptr (.B 2) 0]), (7, .D (.I .i64 (q0.length : Int))), (8, .D (.I .i64 a1))], ownL [some (.row true 3 (q0.map Frame.row)), some (.box [.D (.I .i64 a3), .D (.L (a4.map Frame.row))]), some (.box [.sl (.O 0) 3 0 a2.length]), none], ownL [some (.row true 3 (a2.map Frame.row))], 1⟩
def F52 (N : Nat) (q0 : (List Frame)) (q1 : Inbox) (q2 : (List Frame)) : Option (Int × (List Frame) × Inbox × (List Frame)) := L52_0 N q0 N 0 q2 q1.Next q1.Ahead
theorem c52 (N : Nat) (q0 : (List Frame)) (q1 : Inbox) (q2 : (List Frame)) (r : (Int × (List Frame) × Inbox × (List Frame))) (h : F52 N q0 q1 q2 = some r) : ACall Try.prog 52 [.sl (.B 0) 3 0 q0.length, .clo 44 [.ptr (.B 1) 0, .ptr (.B 2) 0]] [some (.row true 3 (q0.map Frame.row)), some (.box [.D (.I .i64 q1.Next), .D (.L (q1.Ahead.map Frame.row))]), some (.box [.sl (.B 3) 3 0 q2.length]), some (.row true 3 (q2.map Frame.row))] (.D (.I .i64 r.1)) [some (.row true 3 (r.2.1.map Frame.row)), some (.box [.D (.I .i64 r.2.2.1.Next), .D (.L (r.2.2.1.Ahead.map Frame.row))]), some (.box [.sl (.O 0) 3 0 r.2.2.2.length]), none] [.row true 3 (r.2.2.2.map Frame.row)] := by
  refine ACall.of_bodyM [16] [3] (fn := Try.f52) (rc := f52c) (rs := f52r) Try.func52 rfl rfl (by kernel_rfl) (by kernel_rfl) (by kernel_rfl) (by rw [Try.ntmps52]; simp) (by decide) ?_
  unfold F52 at h
  unfold f52c f52r
  rw [entryM_eq _ _ _ _ _ (by simp (config := { maxSteps := 1000000 }) (disch := first | assumption | (simp; done) | omega | (simp; omega)) only [push_cast, reduceCtorEq, Nat.reduceEqDiff, Nat.reduceAdd, Nat.reduceSub, Nat.reduceMul, Nat.reduceLeDiff, Nat.reduceLT, Int.reduceEq, Int.reduceNe, Int.reduceLT, Int.reduceLE, Int.reduceGT, Int.reduceGE, Int.reduceBEq, Int.reduceBNe, ↓reduceIte] <;> rfl) (by simp (config := { maxSteps := 1000000 }) (disch := first | assumption | (simp; done) | omega | (simp; omega)) only [push_cast, reduceCtorEq, Nat.reduceEqDiff, Nat.reduceAdd, Nat.reduceSub, Nat.reduceMul, Nat.reduceLeDiff, Nat.reduceLT, Int.reduceEq, Int.reduceNe, Int.reduceLT, Int.reduceLE, Int.reduceGT, Int.reduceGE, Int.reduceBEq, Int.reduceBNe, ↓reduceIte] <;> rfl)]
  simp (config := { maxSteps := 1000000 }) (disch := first | assumption | (simp; done) | omega | (simp; omega)) only [push_cast, reduceCtorEq, Nat.reduceEqDiff, Nat.reduceAdd, Nat.reduceSub, Nat.reduceMul, Nat.reduceLeDiff, Nat.reduceLT, Int.reduceEq, Int.reduceNe, Int.reduceLT, Int.reduceLE, Int.reduceGT, Int.reduceGE, Int.reduceBEq, Int.reduceBNe, ↓reduceIte]
  refine loop_of (I52_0 N q0 _) N [0, 1, 7, 8] [0] (by decide) ⟨0, q2, q1.Next, q1.Ahead, h, ?_⟩ ?_
  · rw [wk_mk]
    simp (config := { maxSteps := 1000000 }) (disch := first | assumption | (simp; done) | omega | (simp; omega)) only [push_cast, reduceCtorEq, Nat.reduceEqDiff, Nat.reduceAdd, Nat.reduceSub, Nat.reduceMul, Nat.reduceLeDiff, Nat.reduceLT, Int.reduceEq, Int.reduceNe, Int.reduceLT, Int.reduceLE, Int.reduceGT, Int.reduceGE, Int.reduceBEq, Int.reduceBNe, ↓reduceIte] <;> rfl
  · rintro n s ⟨a1, a2, a3, a4, h, rfl⟩
    cases n with
    | zero => exact absurd h (by simp [L52_0])
    | succ m1 =>
      rw [L52_0] at h
      unfold f52b7
      rcases F_if h with ⟨h211, h⟩ | ⟨h211, h⟩
      · try simp (disch := first | assumption | (simp; done) | omega | (simp; omega)) only [push_cast, reduceCtorEq, Nat.reduceEqDiff, Nat.reduceAdd, Nat.reduceSub, Nat.reduceMul, Nat.reduceLeDiff, Nat.reduceLT, Int.reduceEq, Int.reduceNe, Int.reduceLT, Int.reduceLE, Int.reduceGT, Int.reduceGE, Int.reduceBEq, Int.reduceBNe, ↓reduceIte] at h211
        obtain ⟨x5, h212, h213, h⟩ := F_get h
        have h215 := get_lt h212 h213
        have h214 := map_get Frame.row h213
        try simp (disch := first | assumption | (simp; done) | omega | (simp; omega)) only [push_cast, reduceCtorEq, Nat.reduceEqDiff, Nat.reduceAdd, Nat.reduceSub, Nat.reduceMul, Nat.reduceLeDiff, Nat.reduceLT, Int.reduceEq, Int.reduceNe, Int.reduceLT, Int.reduceLE, Int.reduceGT, Int.reduceGE, Int.reduceBEq, Int.reduceBNe, ↓reduceIte] at h214
        try simp (disch := first | assumption | (simp; done) | omega | (simp; omega)) only [push_cast, reduceCtorEq, Nat.reduceEqDiff, Nat.reduceAdd, Nat.reduceSub, Nat.reduceMul, Nat.reduceLeDiff, Nat.reduceLT, Int.reduceEq, Int.reduceNe, Int.reduceLT, Int.reduceLE, Int.reduceGT, Int.reduceGE, Int.reduceBEq, Int.reduceBNe, ↓reduceIte] at h215
        obtain ⟨v6, h216, h⟩ := F_bd h
        simp (config := { maxSteps := 1000000 }) (disch := first | assumption | (simp; done) | omega | (simp; omega)) only [push_cast, reduceCtorEq, Nat.reduceEqDiff, Nat.reduceAdd, Nat.reduceSub, Nat.reduceMul, Nat.reduceLeDiff, Nat.reduceLT, Int.reduceEq, Int.reduceNe, Int.reduceLT, Int.reduceLE, Int.reduceGT, Int.reduceGE, Int.reduceBEq, Int.reduceBNe, ↓reduceIte, h211, h212, h214, h215]
        refine callE_of [.B 1, .B 2, .O 0] (by rfl) (c44 N _ _ _ _ h216) (by decide) rfl (by simp (config := { maxSteps := 1000000 }) (disch := first | assumption | (simp; done) | omega | (simp; omega)) only [push_cast, reduceCtorEq, Nat.reduceEqDiff, Nat.reduceAdd, Nat.reduceSub, Nat.reduceMul, Nat.reduceLeDiff, Nat.reduceLT, Int.reduceEq, Int.reduceNe, Int.reduceLT, Int.reduceLE, Int.reduceGT, Int.reduceGE, Int.reduceBEq, Int.reduceBNe, ↓reduceIte] <;> rfl) (by simp (config := { maxSteps := 1000000 }) (disch := first | assumption | (simp; done) | omega | (simp; omega)) only [push_cast, reduceCtorEq, Nat.reduceEqDiff, Nat.reduceAdd, Nat.reduceSub, Nat.reduceMul, Nat.reduceLeDiff, Nat.reduceLT, Int.reduceEq, Int.reduceNe, Int.reduceLT, Int.reduceLE, Int.reduceGT, Int.reduceGE, Int.reduceBEq, Int.reduceBNe, ↓reduceIte] <;> rfl) ?_ ?_ ?_
        · simp (config := { maxSteps := 1000000 }) (disch := first | assumption | (simp; done) | omega | (simp; omega)) only [push_cast, reduceCtorEq, Nat.reduceEqDiff, Nat.reduceAdd, Nat.reduceSub, Nat.reduceMul, Nat.reduceLeDiff, Nat.reduceLT, Int.reduceEq, Int.reduceNe, Int.reduceLT, Int.reduceLE, Int.reduceGT, Int.reduceGE, Int.reduceBEq, Int.reduceBNe, ↓reduceIte, h211, h212, h214, h215] <;> rfl
        · simp (config := { maxSteps := 1000000 }) (disch := first | assumption | (simp; done) | omega | (simp; omega)) only [push_cast, reduceCtorEq, Nat.reduceEqDiff, Nat.reduceAdd, Nat.reduceSub, Nat.reduceMul, Nat.reduceLeDiff, Nat.reduceLT, Int.reduceEq, Int.reduceNe, Int.reduceLT, Int.reduceLE, Int.reduceGT, Int.reduceGE, Int.reduceBEq, Int.reduceBNe, ↓reduceIte, h211, h212, h214, h215] <;> rfl
        rcases F_if h with ⟨h217, h⟩ | ⟨h217, h⟩
        · try simp (disch := first | assumption | (simp; done) | omega | (simp; omega)) only [push_cast, reduceCtorEq, Nat.reduceEqDiff, Nat.reduceAdd, Nat.reduceSub, Nat.reduceMul, Nat.reduceLeDiff, Nat.reduceLT, Int.reduceEq, Int.reduceNe, Int.reduceLT, Int.reduceLE, Int.reduceGT, Int.reduceGE, Int.reduceBEq, Int.reduceBNe, ↓reduceIte] at h217
          obtain rfl := Option.some.inj h
          simp (config := { maxSteps := 1000000 }) (disch := first | assumption | (simp; done) | omega | (simp; omega)) only [push_cast, reduceCtorEq, Nat.reduceEqDiff, Nat.reduceAdd, Nat.reduceSub, Nat.reduceMul, Nat.reduceLeDiff, Nat.reduceLT, Int.reduceEq, Int.reduceNe, Int.reduceLT, Int.reduceLE, Int.reduceGT, Int.reduceGE, Int.reduceBEq, Int.reduceBNe, ↓reduceIte, h211, h212, h214, h215, h217]
          refine AEndW.of [1] (.inr rfl) (by decide) rfl ?_ ?_ ?_
          · simp (config := { maxSteps := 1000000 }) (disch := first | assumption | (simp; done) | omega | (simp; omega)) only [push_cast, reduceCtorEq, Nat.reduceEqDiff, Nat.reduceAdd, Nat.reduceSub, Nat.reduceMul, Nat.reduceLeDiff, Nat.reduceLT, Int.reduceEq, Int.reduceNe, Int.reduceLT, Int.reduceLE, Int.reduceGT, Int.reduceGE, Int.reduceBEq, Int.reduceBNe, ↓reduceIte, h211, h212, h214, h215, h217] <;> rfl
          · simp (config := { maxSteps := 1000000 }) (disch := first | assumption | (simp; done) | omega | (simp; omega)) only [push_cast, reduceCtorEq, Nat.reduceEqDiff, Nat.reduceAdd, Nat.reduceSub, Nat.reduceMul, Nat.reduceLeDiff, Nat.reduceLT, Int.reduceEq, Int.reduceNe, Int.reduceLT, Int.reduceLE, Int.reduceGT, Int.reduceGE, Int.reduceBEq, Int.reduceBNe, ↓reduceIte, h211, h212, h214, h215, h217] <;> rfl
          · simp (config := { maxSteps := 1000000 }) (disch := first | assumption | (simp; done) | omega | (simp; omega)) only [push_cast, reduceCtorEq, Nat.reduceEqDiff, Nat.reduceAdd, Nat.reduceSub, Nat.reduceMul, Nat.reduceLeDiff, Nat.reduceLT, Int.reduceEq, Int.reduceNe, Int.reduceLT, Int.reduceLE, Int.reduceGT, Int.reduceGE, Int.reduceBEq, Int.reduceBNe, ↓reduceIte, h211, h212, h214, h215, h217] <;> rfl
        · try simp (disch := first | assumption | (simp; done) | omega | (simp; omega)) only [push_cast, reduceCtorEq, Nat.reduceEqDiff, Nat.reduceAdd, Nat.reduceSub, Nat.reduceMul, Nat.reduceLeDiff, Nat.reduceLT, Int.reduceEq, Int.reduceNe, Int.reduceLT, Int.reduceLE, Int.reduceGT, Int.reduceGE, Int.reduceBEq, Int.reduceBNe, ↓reduceIte] at h217
          obtain ⟨h218, h⟩ := F_ck h
          try simp (disch := first | assumption | (simp; done) | omega | (simp; omega)) only [push_cast, reduceCtorEq, Nat.reduceEqDiff, Nat.reduceAdd, Nat.reduceSub, Nat.reduceMul, Nat.reduceLeDiff, Nat.reduceLT, Int.reduceEq, Int.reduceNe, Int.reduceLT, Int.reduceLE, Int.reduceGT, Int.reduceGE, Int.reduceBEq, Int.reduceBNe, ↓reduceIte] at h218
          simp (config := { maxSteps := 1000000 }) (disch := first | assumption | (simp; done) | omega | (simp; omega)) only [push_cast, reduceCtorEq, Nat.reduceEqDiff, Nat.reduceAdd, Nat.reduceSub, Nat.reduceMul, Nat.reduceLeDiff, Nat.reduceLT, Int.reduceEq, Int.reduceNe, Int.reduceLT, Int.reduceLE, Int.reduceGT, Int.reduceGE, Int.reduceBEq, Int.reduceBNe, ↓reduceIte, h211, h212, h214, h215, h217, h218]
          refine lpK_of m1 [0, 1, 7, 8] [1] (by omega) (by decide) ⟨(a1 + 1), v6.2.2, v6.2.1.Next, v6.2.1.Ahead, h, ?_⟩
          rw [wk_mk]
          simp (config := { maxSteps := 1000000 }) (disch := first | assumption | (simp; done) | omega | (simp; omega)) only [push_cast, reduceCtorEq, Nat.reduceEqDiff, Nat.reduceAdd, Nat.reduceSub, Nat.reduceMul, Nat.reduceLeDiff, Nat.reduceLT, Int.reduceEq, Int.reduceNe, Int.reduceLT, Int.reduceLE, Int.reduceGT, Int.reduceGE, Int.reduceBEq, Int.reduceBNe, ↓reduceIte, h211, h212, h214, h215, h217, h218] <;> rfl
      · try simp (disch := first | assumption | (simp; done) | omega | (simp; omega)) only [push_cast, reduceCtorEq, Nat.reduceEqDiff, Nat.reduceAdd, Nat.reduceSub, Nat.reduceMul, Nat.reduceLeDiff, Nat.reduceLT, Int.reduceEq, Int.reduceNe, Int.reduceLT, Int.reduceLE, Int.reduceGT, Int.reduceGE, Int.reduceBEq, Int.reduceBNe, ↓reduceIte] at h211
        obtain rfl := Option.some.inj h
        simp (config := { maxSteps := 1000000 }) (disch := first | assumption | (simp; done) | omega | (simp; omega)) only [push_cast, reduceCtorEq, Nat.reduceEqDiff, Nat.reduceAdd, Nat.reduceSub, Nat.reduceMul, Nat.reduceLeDiff, Nat.reduceLT, Int.reduceEq, Int.reduceNe, Int.reduceLT, Int.reduceLE, Int.reduceGT, Int.reduceGE, Int.reduceBEq, Int.reduceBNe, ↓reduceIte, h211]
        refine AEndW.of [0] (.inr rfl) (by decide) rfl ?_ ?_ ?_
        · simp (config := { maxSteps := 1000000 }) (disch := first | assumption | (simp; done) | omega | (simp; omega)) only [push_cast, reduceCtorEq, Nat.reduceEqDiff, Nat.reduceAdd, Nat.reduceSub, Nat.reduceMul, Nat.reduceLeDiff, Nat.reduceLT, Int.reduceEq, Int.reduceNe, Int.reduceLT, Int.reduceLE, Int.reduceGT, Int.reduceGE, Int.reduceBEq, Int.reduceBNe, ↓reduceIte, h211] <;> rfl
        · simp (config := { maxSteps := 1000000 }) (disch := first | assumption | (simp; done) | omega | (simp; omega)) only [push_cast, reduceCtorEq, Nat.reduceEqDiff, Nat.reduceAdd, Nat.reduceSub, Nat.reduceMul, Nat.reduceLeDiff, Nat.reduceLT, Int.reduceEq, Int.reduceNe, Int.reduceLT, Int.reduceLE, Int.reduceGT, Int.reduceGE, Int.reduceBEq, Int.reduceBNe, ↓reduceIte, h211] <;> rfl
        · simp (config := { maxSteps := 1000000 }) (disch := first | assumption | (simp; done) | omega | (simp; omega)) only [push_cast, reduceCtorEq, Nat.reduceEqDiff, Nat.reduceAdd, Nat.reduceSub, Nat.reduceMul, Nat.reduceLeDiff, Nat.reduceLT, Int.reduceEq, Int.reduceNe, Int.reduceLT, Int.reduceLE, Int.reduceGT, Int.reduceGE, Int.reduceBEq, Int.reduceBNe, ↓reduceIte, h211] <;> rfl

/-! ## 43 slices.DeleteFunc[[]rivermark.api.Frame,rivermark.api.Frame] -/
def f43g0 : List RO :=
  [⟨(.some 4), (.mv (.const (.slice .none 0 0))), .none⟩]
def f43g1 : List RO :=
  [⟨(.some 8), (.mv (.tmp 0)), .none⟩,
   ⟨(.some 9), (.mv (.tmp 1)), .none⟩,
   ⟨(.some 10), (.callE (.func 52) [(.tmp 8), (.tmp 9)]), .none⟩,
   ⟨(.some 5), (.mv (.tmp 10)), .none⟩]
def f43g2 : List RO :=
  [⟨(.some 11), (.mv (.tmp 5)), .none⟩,
   ⟨(.some 12), (.bin .eql (.tmp 11) (.const (.int .i64 (-1)))), .none⟩]
def f43g3 : List RO :=
  [⟨(.some 13), (.mv (.tmp 0)), .none⟩,
   ⟨(.some 4), (.mv (.tmp 13)), .none⟩]
def f43g4 : List RO :=
  [⟨(.some 14), (.mv (.tmp 5)), .none⟩,
   ⟨(.some 15), (.bin .add (.tmp 14) (.const (.int .i64 1))), .none⟩,
   ⟨(.some 6), (.mv (.tmp 15)), .none⟩]
def f43g5 : List RO :=
  [⟨(.some 16), (.mv (.tmp 6)), .none⟩,
   ⟨(.some 17), (.mv (.tmp 0)), .none⟩,
   ⟨(.some 18), (.len .false (.tmp 17)), .none⟩,
   ⟨(.some 19), (.bin .lss (.tmp 16) (.tmp 18)), .none⟩]
def f43g6 : List RO :=
  [⟨(.some 22), (.mv (.tmp 0)), .none⟩,
   ⟨(.some 23), (.mv (.tmp 6)), .none⟩,
   ⟨(.some 24), (.iaddr 3 (.tmp 22) (.tmp 23)), .none⟩,
   ⟨(.some 25), (.load (.some 3) (.tmp 24)), .none⟩,
   ⟨(.some 7), (.new [(.D (.B .false)), (.D (.I .i64 0)), (.D (.S []))]), .none⟩,
   ⟨.none, (.store 3 (.tmp 7) (.tmp 25)), .none⟩]
def f43g7 : List RO :=
  [⟨(.some 26), (.mv (.tmp 1)), .none⟩,
   ⟨(.some 27), (.load (.some 3) (.tmp 7)), .none⟩,
   ⟨(.some 28), (.callE (.tmp 26) [(.tmp 27)]), .none⟩,
   ⟨(.some 29), (.un .not (.tmp 28)), .none⟩]
def f43g8 : List RO :=
  [⟨(.some 30), (.mv (.tmp 0)), .none⟩,
   ⟨(.some 31), (.mv (.tmp 5)), .none⟩,
   ⟨(.some 32), (.load (.some 3) (.tmp 7)), .none⟩,
   ⟨(.some 33), (.iaddr 3 (.tmp 30) (.tmp 31)), .none⟩,
   ⟨.none, (.store 3 (.tmp 33) (.tmp 32)), .none⟩]
def f43g9 : List RO :=
  [⟨(.some 34), (.mv (.tmp 5)), .none⟩,
   ⟨(.some 35), (.bin .add (.tmp 34) (.const (.int .i64 1))), .none⟩,
   ⟨(.some 5), (.mv (.tmp 35)), .none⟩]
def f43g10 : List RO :=
  [⟨(.some 20), (.mv (.tmp 6)), .none⟩,
   ⟨(.some 21), (.bin .add (.tmp 20) (.const (.int .i64 1))), .none⟩,
   ⟨(.some 6), (.mv (.tmp 21)), .none⟩]
def f43b11 : RCode := (.seq (.seq (.reg .false f43g5) (.cond (.tmp 19) .skip (.exit 0))) (.seq (.block 1 (.seq (.reg .false f43g6) (.seq (.reg .false f43g7) (.cond (.tmp 29) (.seq (.reg .false f43g8) (.reg .false f43g9)) .skip)))) (.reg .false f43g10)))
def f43g12 : List RO :=
  [⟨(.some 36), (.mv (.tmp 0)), .none⟩,
   ⟨(.some 37), (.mv (.tmp 5)), .none⟩,
   ⟨(.some 38), (.sll 3 (.tmp 36) (.some (.tmp 37)) .none .none), .none⟩,
   ⟨.none, (.clr 3 [(.B .false), (.I .i64 0), (.S [])] (.tmp 38)), .none⟩]
def f43g13 : List RO :=
  [⟨(.some 39), (.mv (.tmp 0)), .none⟩,
   ⟨(.some 40), (.mv (.tmp 5)), .none⟩,
   ⟨(.some 41), (.sll 3 (.tmp 39) .none (.some (.tmp 40)) .none), .none⟩,
   ⟨(.some 4), (.mv (.tmp 41)), .none⟩]
def f43c : RCode := (.seq (.reg .false f43g0) (.seq (.reg .false f43g1) (.seq (.seq (.reg .false f43g2) (.cond (.tmp 12) (.seq (.reg .false f43g3) .ret) .skip)) (.seq (.seq (.reg .false f43g4) (.block 0 (.loop f43b11))) (.seq (.reg .false f43g12) (.seq (.reg .false f43g13) .ret))))))
def f43r : List RRes := [(.tmp 4)]
attribute [push_cast] f43g0 f43g1 f43g2 f43g3 f43g4 f43g5 f43g6 f43g7 f43g8 f43g9 f43g10 f43g12 f43g13
def L43_0 (N : Nat) : Nat → Int → Int → (List Frame) → (List Frame) → Int → (List Frame) → Option (Int × (List Frame) × Inbox × (List Frame))
  | 0, _, _, _, _, _, _ => none
  | m1+1, a2, a3, a4, a5, a6, a7 => if? (decide (a3 < (a5.length : Int))) (get? a5 (a3) fun x8 => bd? (F44 N x8 (Inbox.mk a6 a7) a4) fun v9 => if? (v9.1) (ck .i64 (a3 + 1) (L43_0 N m1 a2 (a3 + 1) v9.2.2 a5 v9.2.1.Next v9.2.1.Ahead)) (get? a5 (a2) fun x10 => ck .i64 (a2 + 1) (ck .i64 (a3 + 1) (L43_0 N m1 (a2 + 1) (a3 + 1) v9.2.2 (a5.set a2.toNat x8) v9.2.1.Next v9.2.1.Ahead)))) (gd? (0 ≤ a2) (gd? (a2.toNat ≤ a5.length) (gd? (a2.toNat + (a5.length - a2.toNat) ≤ a5.length) (gd? (a2.toNat ≤ (a5.take a2.toNat ++ List.replicate (a5.length - a2.toNat) (Frame.mk false (0 : Int) ([] : Str)) ++ a5.drop (a2.toNat + (a5.length - a2.toNat))).length) (some ((a2.toNat - 0 : Int), (a5.take a2.toNat ++ List.replicate (a5.length - a2.toNat) (Frame.mk false (0 : Int) ([] : Str)) ++ a5.drop (a2.toNat + (a5.length - a2.toNat))), (Inbox.mk a6 a7), a4))))))
def I43_0 (N : Nat) (r : (Int × (List Frame) × Inbox × (List Frame))) (n : Nat) (s : AState) : Prop := ∃ (a2 : Int) (a3 : Int) (a4 : (List Frame)) (a5 : (List Frame)) (a6 : Int) (a7 : (List Frame)), L43_0 N n a2 a3 a4 a5 a6 a7 = some r ∧ s = ⟨envL [(0, .sl (.B 0) 3 0 a5.length), (1, .clo 44 [.ptr (.B 1) 0, .ptr (.B 2) 0]), (5, .D (.I .i64 a2)), (6, .D (.I .i64 a3))], ownL [some (.row true 3 (a5.map Frame.row)), some (.box [.D (.I .i64 a6), .D (.L (a7.map Frame.row))]), some (.box [.sl (.O 0) 3 0 a4.length]), none], ownL [some (.row true 3 (a4.map Frame.row))], 1⟩
def F43 (N : Nat) (q0 : (List Frame)) (q1 : Inbox) (q2 : (List Frame)) : Option (Int × (List Frame) × Inbox × (List Frame)) := bd? (F52 N q0 q1 q2) fun v1 => gd? (v1.2.1.length = q0.length) (if? ((v1.1 == (-1))) (some ((v1.2.1.length : Int), v1.2.1, v1.2.2.1, v1.2.2.2)) (ck .i64 (v1.1 + 1) (L43_0 N N v1.1 (v1.1 + 1) v1.2.2.2 v1.2.1 v1.2.2.1.Next v1.2.2.1.Ahead)))
theorem c43 (N : Nat) (q0 : (List Frame)) (q1 : Inbox) (q2 : (List Frame)) (r : (Int × (List Frame) × Inbox × (List Frame))) (h : F43 N q0 q1 q2 = some r) : ACall Try.prog 43 [.sl (.B 0) 3 0 q0.length, .clo 44 [.ptr (.B 1) 0, .ptr (.B 2) 0]] [some (.row true 3 (q0.map Frame.row)), some (.box [.D (.I .i64 q1.Next), .D (.L (q1.Ahead.map Frame.row))]), some (.box [.sl (.B 3) 3 0 q2.length]), some (.row true 3 (q2.map Frame.row))] (.sl (.B 0) 3 0 r.1.toNat) [some (.row true 3 (r.2.1.map Frame.row)), some (.box [.D (.I .i64 r.2.2.1.Next), .D (.L (r.2.2.1.Ahead.map Frame.row))]), some (.box [.sl (.O 0) 3 0 r.2.2.2.length]), none] [.row true 3 (r.2.2.2.map Frame.row)] := by
  refine ACall.of_bodyM [10, 28] [3] (fn := Try.f43) (rc := f43c) (rs := f43r) Try.func43 rfl rfl (by kernel_rfl) (by kernel_rfl) (by kernel_rfl) (by rw [Try.ntmps43]; simp) (by decide) ?_
  unfold F43 at h
  unfold f43c f43r
  rw [entryM_eq _ _ _ _ _ (by simp (config := { maxSteps := 1000000 }) (disch := first | assumption | (simp; done) | omega | (simp; omega)) only [push_cast, reduceCtorEq, Nat.reduceEqDiff, Nat.reduceAdd, Nat.reduceSub, Nat.reduceMul, Nat.reduceLeDiff, Nat.reduceLT, Int.reduceEq, Int.reduceNe, Int.reduceLT, Int.reduceLE, Int.reduceGT, Int.reduceGE, Int.reduceBEq, Int.reduceBNe, ↓reduceIte] <;> rfl) (by simp (config := { maxSteps := 1000000 }) (disch := first | assumption | (simp; done) | omega | (simp; omega)) only [push_cast, reduceCtorEq, Nat.reduceEqDiff, Nat.reduceAdd, Nat.reduceSub, Nat.reduceMul, Nat.reduceLeDiff, Nat.reduceLT, Int.reduceEq, Int.reduceNe, Int.reduceLT, Int.reduceLE, Int.reduceGT, Int.reduceGE, Int.reduceBEq, Int.reduceBNe, ↓reduceIte] <;> rfl)]
  obtain ⟨v1, h219, h⟩ := F_bd h
  simp (config := { maxSteps := 1000000 }) (disch := first | assumption | (simp; done) | omega | (simp; omega)) only [push_cast, reduceCtorEq, Nat.reduceEqDiff, Nat.reduceAdd, Nat.reduceSub, Nat.reduceMul, Nat.reduceLeDiff, Nat.reduceLT, Int.reduceEq, Int.reduceNe, Int.reduceLT, Int.reduceLE, Int.reduceGT, Int.reduceGE, Int.reduceBEq, Int.reduceBNe, ↓reduceIte]
  refine callE_of [.B 0, .B 1, .B 2, .O 0] (by rfl) (c52 N _ _ _ _ h219) (by decide) rfl (by simp (config := { maxSteps := 1000000 }) (disch := first | assumption | (simp; done) | omega | (simp; omega)) only [push_cast, reduceCtorEq, Nat.reduceEqDiff, Nat.reduceAdd, Nat.reduceSub, Nat.reduceMul, Nat.reduceLeDiff, Nat.reduceLT, Int.reduceEq, Int.reduceNe, Int.reduceLT, Int.reduceLE, Int.reduceGT, Int.reduceGE, Int.reduceBEq, Int.reduceBNe, ↓reduceIte] <;> rfl) (by simp (config := { maxSteps := 1000000 }) (disch := first | assumption | (simp; done) | omega | (simp; omega)) only [push_cast, reduceCtorEq, Nat.reduceEqDiff, Nat.reduceAdd, Nat.reduceSub, Nat.reduceMul, Nat.reduceLeDiff, Nat.reduceLT, Int.reduceEq, Int.reduceNe, Int.reduceLT, Int.reduceLE, Int.reduceGT, Int.reduceGE, Int.reduceBEq, Int.reduceBNe, ↓reduceIte] <;> rfl) ?_ ?_ ?_
  · simp (config := { maxSteps := 1000000 }) (disch := first | assumption | (simp; done) | omega | (simp; omega)) only [push_cast, reduceCtorEq, Nat.reduceEqDiff, Nat.reduceAdd, Nat.reduceSub, Nat.reduceMul, Nat.reduceLeDiff, Nat.reduceLT, Int.reduceEq, Int.reduceNe, Int.reduceLT, Int.reduceLE, Int.reduceGT, Int.reduceGE, Int.reduceBEq, Int.reduceBNe, ↓reduceIte] <;> rfl
  · simp (config := { maxSteps := 1000000 }) (disch := first | assumption | (simp; done) | omega | (simp; omega)) only [push_cast, reduceCtorEq, Nat.reduceEqDiff, Nat.reduceAdd, Nat.reduceSub, Nat.reduceMul, Nat.reduceLeDiff, Nat.reduceLT, Int.reduceEq, Int.reduceNe, Int.reduceLT, Int.reduceLE, Int.reduceGT, Int.reduceGE, Int.reduceBEq, Int.reduceBNe, ↓reduceIte] <;> rfl
  obtain ⟨h220, h⟩ := F_gd h
  try simp (disch := first | assumption | (simp; done) | omega | (simp; omega)) only [push_cast, reduceCtorEq, Nat.reduceEqDiff, Nat.reduceAdd, Nat.reduceSub, Nat.reduceMul, Nat.reduceLeDiff, Nat.reduceLT, Int.reduceEq, Int.reduceNe, Int.reduceLT, Int.reduceLE, Int.reduceGT, Int.reduceGE, Int.reduceBEq, Int.reduceBNe, ↓reduceIte] at h220
  rcases F_if h with ⟨h221, h⟩ | ⟨h221, h⟩
  · try simp (disch := first | assumption | (simp; done) | omega | (simp; omega)) only [push_cast, reduceCtorEq, Nat.reduceEqDiff, Nat.reduceAdd, Nat.reduceSub, Nat.reduceMul, Nat.reduceLeDiff, Nat.reduceLT, Int.reduceEq, Int.reduceNe, Int.reduceLT, Int.reduceLE, Int.reduceGT, Int.reduceGE, Int.reduceBEq, Int.reduceBNe, ↓reduceIte] at h221
    obtain rfl := Option.some.inj h
    simp (config := { maxSteps := 1000000 }) (disch := first | assumption | (simp; done) | omega | (simp; omega)) only [push_cast, reduceCtorEq, Nat.reduceEqDiff, Nat.reduceAdd, Nat.reduceSub, Nat.reduceMul, Nat.reduceLeDiff, Nat.reduceLT, Int.reduceEq, Int.reduceNe, Int.reduceLT, Int.reduceLE, Int.reduceGT, Int.reduceGE, Int.reduceBEq, Int.reduceBNe, ↓reduceIte, h220, h221]
    refine AEndW.of [1] (.inr rfl) (by decide) rfl ?_ ?_ ?_
    · simp (config := { maxSteps := 1000000 }) (disch := first | assumption | (simp; done) | omega | (simp; omega)) only [push_cast, reduceCtorEq, Nat.reduceEqDiff, Nat.reduceAdd, Nat.reduceSub, Nat.reduceMul, Nat.reduceLeDiff, Nat.reduceLT, Int.reduceEq, Int.reduceNe, Int.reduceLT, Int.reduceLE, Int.reduceGT, Int.reduceGE, Int.reduceBEq, Int.reduceBNe, ↓reduceIte, h220, h221] <;> rfl
    · simp (config := { maxSteps := 1000000 }) (disch := first | assumption | (simp; done) | omega | (simp; omega)) only [push_cast, reduceCtorEq, Nat.reduceEqDiff, Nat.reduceAdd, Nat.reduceSub, Nat.reduceMul, Nat.reduceLeDiff, Nat.reduceLT, Int.reduceEq, Int.reduceNe, Int.reduceLT, Int.reduceLE, Int.reduceGT, Int.reduceGE, Int.reduceBEq, Int.reduceBNe, ↓reduceIte, h220, h221] <;> rfl
    · simp (config := { maxSteps := 1000000 }) (disch := first | assumption | (simp; done) | omega | (simp; omega)) only [push_cast, reduceCtorEq, Nat.reduceEqDiff, Nat.reduceAdd, Nat.reduceSub, Nat.reduceMul, Nat.reduceLeDiff, Nat.reduceLT, Int.reduceEq, Int.reduceNe, Int.reduceLT, Int.reduceLE, Int.reduceGT, Int.reduceGE, Int.reduceBEq, Int.reduceBNe, ↓reduceIte, h220, h221] <;> rfl
  · try simp (disch := first | assumption | (simp; done) | omega | (simp; omega)) only [push_cast, reduceCtorEq, Nat.reduceEqDiff, Nat.reduceAdd, Nat.reduceSub, Nat.reduceMul, Nat.reduceLeDiff, Nat.reduceLT, Int.reduceEq, Int.reduceNe, Int.reduceLT, Int.reduceLE, Int.reduceGT, Int.reduceGE, Int.reduceBEq, Int.reduceBNe, ↓reduceIte] at h221
    obtain ⟨h222, h⟩ := F_ck h
    try simp (disch := first | assumption | (simp; done) | omega | (simp; omega)) only [push_cast, reduceCtorEq, Nat.reduceEqDiff, Nat.reduceAdd, Nat.reduceSub, Nat.reduceMul, Nat.reduceLeDiff, Nat.reduceLT, Int.reduceEq, Int.reduceNe, Int.reduceLT, Int.reduceLE, Int.reduceGT, Int.reduceGE, Int.reduceBEq, Int.reduceBNe, ↓reduceIte] at h222
    simp (config := { maxSteps := 1000000 }) (disch := first | assumption | (simp; done) | omega | (simp; omega)) only [push_cast, reduceCtorEq, Nat.reduceEqDiff, Nat.reduceAdd, Nat.reduceSub, Nat.reduceMul, Nat.reduceLeDiff, Nat.reduceLT, Int.reduceEq, Int.reduceNe, Int.reduceLT, Int.reduceLE, Int.reduceGT, Int.reduceGE, Int.reduceBEq, Int.reduceBNe, ↓reduceIte, h220, h221, h222]
    refine loop_of (I43_0 N _) N [0, 1, 5, 6] [1] (by decide) ⟨v1.1, (v1.1 + 1), v1.2.2.2, v1.2.1, v1.2.2.1.Next, v1.2.2.1.Ahead, h, ?_⟩ ?_
    · rw [wk_mk]
      simp (config := { maxSteps := 1000000 }) (disch := first | assumption | (simp; done) | omega | (simp; omega)) only [push_cast, reduceCtorEq, Nat.reduceEqDiff, Nat.reduceAdd, Nat.reduceSub, Nat.reduceMul, Nat.reduceLeDiff, Nat.reduceLT, Int.reduceEq, Int.reduceNe, Int.reduceLT, Int.reduceLE, Int.reduceGT, Int.reduceGE, Int.reduceBEq, Int.reduceBNe, ↓reduceIte, h220, h221, h222] <;> rfl
    · rintro n s ⟨a2, a3, a4, a5, a6, a7, h, rfl⟩
      cases n with
      | zero => exact absurd h (by simp [L43_0])
      | succ m1 =>
        rw [L43_0] at h
        unfold f43b11
        rcases F_if h with ⟨h223, h⟩ | ⟨h223, h⟩
        · try simp (disch := first | assumption | (simp; done) | omega | (simp; omega)) only [push_cast, reduceCtorEq, Nat.reduceEqDiff, Nat.reduceAdd, Nat.reduceSub, Nat.reduceMul, Nat.reduceLeDiff, Nat.reduceLT, Int.reduceEq, Int.reduceNe, Int.reduceLT, Int.reduceLE, Int.reduceGT, Int.reduceGE, Int.reduceBEq, Int.reduceBNe, ↓reduceIte] at h223
          obtain ⟨x8, h224, h225, h⟩ := F_get h
          have h227 := get_lt h224 h225
          have h226 := map_get Frame.row h225
          try simp (disch := first | assumption | (simp; done) | omega | (simp; omega)) only [push_cast, reduceCtorEq, Nat.reduceEqDiff, Nat.reduceAdd, Nat.reduceSub, Nat.reduceMul, Nat.reduceLeDiff, Nat.reduceLT, Int.reduceEq, Int.reduceNe, Int.reduceLT, Int.reduceLE, Int.reduceGT, Int.reduceGE, Int.reduceBEq, Int.reduceBNe, ↓reduceIte] at h226
          try simp (disch := first | assumption | (simp; done) | omega | (simp; omega)) only [push_cast, reduceCtorEq, Nat.reduceEqDiff, Nat.reduceAdd, Nat.reduceSub, Nat.reduceMul, Nat.reduceLeDiff, Nat.reduceLT, Int.reduceEq, Int.reduceNe, Int.reduceLT, Int.reduceLE, Int.reduceGT, Int.reduceGE, Int.reduceBEq, Int.reduceBNe, ↓reduceIte] at h227
          obtain ⟨v9, h228, h⟩ := F_bd h
          simp (config := { maxSteps := 1000000 }) (disch := first | assumption | (simp; done) | omega | (simp; omega)) only [push_cast, reduceCtorEq, Nat.reduceEqDiff, Nat.reduceAdd, Nat.reduceSub, Nat.reduceMul, Nat.reduceLeDiff, Nat.reduceLT, Int.reduceEq, Int.reduceNe, Int.reduceLT, Int.reduceLE, Int.reduceGT, Int.reduceGE, Int.reduceBEq, Int.reduceBNe, ↓reduceIte, h220, h221, h222, h223, h224, h226, h227]
          refine callE_of [.B 1, .B 2, .O 0] (by rfl) (c44 N _ _ _ _ h228) (by decide) rfl (by simp (config := { maxSteps := 1000000 }) (disch := first | assumption | (simp; done) | omega | (simp; omega)) only [push_cast, reduceCtorEq, Nat.reduceEqDiff, Nat.reduceAdd, Nat.reduceSub, Nat.reduceMul, Nat.reduceLeDiff, Nat.reduceLT, Int.reduceEq, Int.reduceNe, Int.reduceLT, Int.reduceLE, Int.reduceGT, Int.reduceGE, Int.reduceBEq, Int.reduceBNe, ↓reduceIte] <;> rfl) (by simp (config := { maxSteps := 1000000 }) (disch := first | assumption | (simp; done) | omega | (simp; omega)) only [push_cast, reduceCtorEq, Nat.reduceEqDiff, Nat.reduceAdd, Nat.reduceSub, Nat.reduceMul, Nat.reduceLeDiff, Nat.reduceLT, Int.reduceEq, Int.reduceNe, Int.reduceLT, Int.reduceLE, Int.reduceGT, Int.reduceGE, Int.reduceBEq, Int.reduceBNe, ↓reduceIte] <;> rfl) ?_ ?_ ?_
          · simp (config := { maxSteps := 1000000 }) (disch := first | assumption | (simp; done) | omega | (simp; omega)) only [push_cast, reduceCtorEq, Nat.reduceEqDiff, Nat.reduceAdd, Nat.reduceSub, Nat.reduceMul, Nat.reduceLeDiff, Nat.reduceLT, Int.reduceEq, Int.reduceNe, Int.reduceLT, Int.reduceLE, Int.reduceGT, Int.reduceGE, Int.reduceBEq, Int.reduceBNe, ↓reduceIte, h220, h221, h222, h223, h224, h226, h227] <;> rfl
          · simp (config := { maxSteps := 1000000 }) (disch := first | assumption | (simp; done) | omega | (simp; omega)) only [push_cast, reduceCtorEq, Nat.reduceEqDiff, Nat.reduceAdd, Nat.reduceSub, Nat.reduceMul, Nat.reduceLeDiff, Nat.reduceLT, Int.reduceEq, Int.reduceNe, Int.reduceLT, Int.reduceLE, Int.reduceGT, Int.reduceGE, Int.reduceBEq, Int.reduceBNe, ↓reduceIte, h220, h221, h222, h223, h224, h226, h227] <;> rfl
          rcases F_if h with ⟨h229, h⟩ | ⟨h229, h⟩
          · try simp (disch := first | assumption | (simp; done) | omega | (simp; omega)) only [push_cast, reduceCtorEq, Nat.reduceEqDiff, Nat.reduceAdd, Nat.reduceSub, Nat.reduceMul, Nat.reduceLeDiff, Nat.reduceLT, Int.reduceEq, Int.reduceNe, Int.reduceLT, Int.reduceLE, Int.reduceGT, Int.reduceGE, Int.reduceBEq, Int.reduceBNe, ↓reduceIte] at h229
            obtain ⟨h230, h⟩ := F_ck h
            try simp (disch := first | assumption | (simp; done) | omega | (simp; omega)) only [push_cast, reduceCtorEq, Nat.reduceEqDiff, Nat.reduceAdd, Nat.reduceSub, Nat.reduceMul, Nat.reduceLeDiff, Nat.reduceLT, Int.reduceEq, Int.reduceNe, Int.reduceLT, Int.reduceLE, Int.reduceGT, Int.reduceGE, Int.reduceBEq, Int.reduceBNe, ↓reduceIte] at h230
            simp (config := { maxSteps := 1000000 }) (disch := first | assumption | (simp; done) | omega | (simp; omega)) only [push_cast, reduceCtorEq, Nat.reduceEqDiff, Nat.reduceAdd, Nat.reduceSub, Nat.reduceMul, Nat.reduceLeDiff, Nat.reduceLT, Int.reduceEq, Int.reduceNe, Int.reduceLT, Int.reduceLE, Int.reduceGT, Int.reduceGE, Int.reduceBEq, Int.reduceBNe, ↓reduceIte, h220, h221, h222, h223, h224, h226, h227, h229, h230]
            refine lpK_of m1 [0, 1, 5, 6] [2] (by omega) (by decide) ⟨a2, (a3 + 1), v9.2.2, a5, v9.2.1.Next, v9.2.1.Ahead, h, ?_⟩
            rw [wk_mk]
            simp (config := { maxSteps := 1000000 }) (disch := first | assumption | (simp; done) | omega | (simp; omega)) only [push_cast, reduceCtorEq, Nat.reduceEqDiff, Nat.reduceAdd, Nat.reduceSub, Nat.reduceMul, Nat.reduceLeDiff, Nat.reduceLT, Int.reduceEq, Int.reduceNe, Int.reduceLT, Int.reduceLE, Int.reduceGT, Int.reduceGE, Int.reduceBEq, Int.reduceBNe, ↓reduceIte, h220, h221, h222, h223, h224, h226, h227, h229, h230] <;> rfl
          · try simp (disch := first | assumption | (simp; done) | omega | (simp; omega)) only [push_cast, reduceCtorEq, Nat.reduceEqDiff, Nat.reduceAdd, Nat.reduceSub, Nat.reduceMul, Nat.reduceLeDiff, Nat.reduceLT, Int.reduceEq, Int.reduceNe, Int.reduceLT, Int.reduceLE, Int.reduceGT, Int.reduceGE, Int.reduceBEq, Int.reduceBNe, ↓reduceIte] at h229
            obtain ⟨x10, h231, h232, h⟩ := F_get h
            have h234 := get_lt h231 h232
            have h233 := map_get Frame.row h232
            try simp (disch := first | assumption | (simp; done) | omega | (simp; omega)) only [push_cast, reduceCtorEq, Nat.reduceEqDiff, Nat.reduceAdd, Nat.reduceSub, Nat.reduceMul, Nat.reduceLeDiff, Nat.reduceLT, Int.reduceEq, Int.reduceNe, Int.reduceLT, Int.reduceLE, Int.reduceGT, Int.reduceGE, Int.reduceBEq, Int.reduceBNe, ↓reduceIte] at h233
            try simp (disch := first | assumption | (simp; done) | omega | (simp; omega)) only [push_cast, reduceCtorEq, Nat.reduceEqDiff, Nat.reduceAdd, Nat.reduceSub, Nat.reduceMul, Nat.reduceLeDiff, Nat.reduceLT, Int.reduceEq, Int.reduceNe, Int.reduceLT, Int.reduceLE, Int.reduceGT, Int.reduceGE, Int.reduceBEq, Int.reduceBNe, ↓reduceIte] at h234
            obtain ⟨h235, h⟩ := F_ck h
            try simp (disch := first | assumption | (simp; done) | omega | (simp; omega)) only [push_cast, reduceCtorEq, Nat.reduceEqDiff, Nat.reduceAdd, Nat.reduceSub, Nat.reduceMul, Nat.reduceLeDiff, Nat.reduceLT, Int.reduceEq, Int.reduceNe, Int.reduceLT, Int.reduceLE, Int.reduceGT, Int.reduceGE, Int.reduceBEq, Int.reduceBNe, ↓reduceIte] at h235
            obtain ⟨h236, h⟩ := F_ck h
            try simp (disch := first | assumption | (simp; done) | omega | (simp; omega)) only [push_cast, reduceCtorEq, Nat.reduceEqDiff, Nat.reduceAdd, Nat.reduceSub, Nat.reduceMul, Nat.reduceLeDiff, Nat.reduceLT, Int.reduceEq, Int.reduceNe, Int.reduceLT, Int.reduceLE, Int.reduceGT, Int.reduceGE, Int.reduceBEq, Int.reduceBNe, ↓reduceIte] at h236
            simp (config := { maxSteps := 1000000 }) (disch := first | assumption | (simp; done) | omega | (simp; omega)) only [push_cast, reduceCtorEq, Nat.reduceEqDiff, Nat.reduceAdd, Nat.reduceSub, Nat.reduceMul, Nat.reduceLeDiff, Nat.reduceLT, Int.reduceEq, Int.reduceNe, Int.reduceLT, Int.reduceLE, Int.reduceGT, Int.reduceGE, Int.reduceBEq, Int.reduceBNe, ↓reduceIte, h220, h221, h222, h223, h224, h226, h227, h229, h231, h233, h234, h235, h236]
            refine lpK_of m1 [0, 1, 5, 6] [2] (by omega) (by decide) ⟨(a2 + 1), (a3 + 1), v9.2.2, (a5.set a2.toNat x8), v9.2.1.Next, v9.2.1.Ahead, h, ?_⟩
            rw [wk_mk]
            simp (config := { maxSteps := 1000000 }) (disch := first | assumption | (simp; done) | omega | (simp; omega)) only [push_cast, reduceCtorEq, Nat.reduceEqDiff, Nat.reduceAdd, Nat.reduceSub, Nat.reduceMul, Nat.reduceLeDiff, Nat.reduceLT, Int.reduceEq, Int.reduceNe, Int.reduceLT, Int.reduceLE, Int.reduceGT, Int.reduceGE, Int.reduceBEq, Int.reduceBNe, ↓reduceIte, h220, h221, h222, h223, h224, h226, h227, h229, h231, h233, h234, h235, h236] <;> rfl
        · try simp (disch := first | assumption | (simp; done) | omega | (simp; omega)) only [push_cast, reduceCtorEq, Nat.reduceEqDiff, Nat.reduceAdd, Nat.reduceSub, Nat.reduceMul, Nat.reduceLeDiff, Nat.reduceLT, Int.reduceEq, Int.reduceNe, Int.reduceLT, Int.reduceLE, Int.reduceGT, Int.reduceGE, Int.reduceBEq, Int.reduceBNe, ↓reduceIte] at h223
          obtain ⟨h237, h⟩ := F_gd h
          try simp (disch := first | assumption | (simp; done) | omega | (simp; omega)) only [push_cast, reduceCtorEq, Nat.reduceEqDiff, Nat.reduceAdd, Nat.reduceSub, Nat.reduceMul, Nat.reduceLeDiff, Nat.reduceLT, Int.reduceEq, Int.reduceNe, Int.reduceLT, Int.reduceLE, Int.reduceGT, Int.reduceGE, Int.reduceBEq, Int.reduceBNe, ↓reduceIte] at h237
          obtain ⟨h238, h⟩ := F_gd h
          try simp (disch := first | assumption | (simp; done) | omega | (simp; omega)) only [push_cast, reduceCtorEq, Nat.reduceEqDiff, Nat.reduceAdd, Nat.reduceSub, Nat.reduceMul, Nat.reduceLeDiff, Nat.reduceLT, Int.reduceEq, Int.reduceNe, Int.reduceLT, Int.reduceLE, Int.reduceGT, Int.reduceGE, Int.reduceBEq, Int.reduceBNe, ↓reduceIte] at h238
          obtain ⟨h239, h⟩ := F_gd h
          try simp (disch := first | assumption | (simp; done) | omega | (simp; omega)) only [push_cast, reduceCtorEq, Nat.reduceEqDiff, Nat.reduceAdd, Nat.reduceSub, Nat.reduceMul, Nat.reduceLeDiff, Nat.reduceLT, Int.reduceEq, Int.reduceNe, Int.reduceLT, Int.reduceLE, Int.reduceGT, Int.reduceGE, Int.reduceBEq, Int.reduceBNe, ↓reduceIte] at h239
          obtain ⟨h240, h⟩ := F_gd h
          try simp (disch := first | assumption | (simp; done) | omega | (simp; omega)) only [push_cast, reduceCtorEq, Nat.reduceEqDiff, Nat.reduceAdd, Nat.reduceSub, Nat.reduceMul, Nat.reduceLeDiff, Nat.reduceLT, Int.reduceEq, Int.reduceNe, Int.reduceLT, Int.reduceLE, Int.reduceGT, Int.reduceGE, Int.reduceBEq, Int.reduceBNe, ↓reduceIte] at h240
          obtain rfl := Option.some.inj h
          simp (config := { maxSteps := 1000000 }) (disch := first | assumption | (simp; done) | omega | (simp; omega)) only [push_cast, reduceCtorEq, Nat.reduceEqDiff, Nat.reduceAdd, Nat.reduceSub, Nat.reduceMul, Nat.reduceLeDiff, Nat.reduceLT, Int.reduceEq, Int.reduceNe, Int.reduceLT, Int.reduceLE, Int.reduceGT, Int.reduceGE, Int.reduceBEq, Int.reduceBNe, ↓reduceIte, h220, h221, h222, h223, h237, h238, h239, h240]
          refine AEndW.of [0] (.inr rfl) (by decide) rfl ?_ ?_ ?_
          · simp (config := { maxSteps := 1000000 }) (disch := first | assumption | (simp; done) | omega | (simp; omega)) only [push_cast, reduceCtorEq, Nat.reduceEqDiff, Nat.reduceAdd, Nat.reduceSub, Nat.reduceMul, Nat.reduceLeDiff, Nat.reduceLT, Int.reduceEq, Int.reduceNe, Int.reduceLT, Int.reduceLE, Int.reduceGT, Int.reduceGE, Int.reduceBEq, Int.reduceBNe, ↓reduceIte, h220, h221, h222, h223, h237, h238, h239, h240] <;> rfl
          · simp (config := { maxSteps := 1000000 }) (disch := first | assumption | (simp; done) | omega | (simp; omega)) only [push_cast, reduceCtorEq, Nat.reduceEqDiff, Nat.reduceAdd, Nat.reduceSub, Nat.reduceMul, Nat.reduceLeDiff, Nat.reduceLT, Int.reduceEq, Int.reduceNe, Int.reduceLT, Int.reduceLE, Int.reduceGT, Int.reduceGE, Int.reduceBEq, Int.reduceBNe, ↓reduceIte, h220, h221, h222, h223, h237, h238, h239, h240] <;> rfl
          · simp (config := { maxSteps := 1000000 }) (disch := first | assumption | (simp; done) | omega | (simp; omega)) only [push_cast, reduceCtorEq, Nat.reduceEqDiff, Nat.reduceAdd, Nat.reduceSub, Nat.reduceMul, Nat.reduceLeDiff, Nat.reduceLT, Int.reduceEq, Int.reduceNe, Int.reduceLT, Int.reduceLE, Int.reduceGT, Int.reduceGE, Int.reduceBEq, Int.reduceBNe, ↓reduceIte, h220, h221, h222, h223, h237, h238, h239, h240] <;> rfl

/-! ## 41 slices.Insert[[]rivermark.api.Frame,rivermark.api.Frame] -/
def F41 (N : Nat) (p1 : Int) (q0 : (List Frame)) (q1 : (List Frame)) : Option (List Frame) := gd? (0 ≤ p1) (gd? (p1.toNat ≤ q0.length) (gd? ((q0.length + q1.length) * 32 ≤ 140737488355328) (some (q0.take p1.toNat ++ q1 ++ q0.drop p1.toNat))))
theorem c41 (N : Nat) (p1 : Int) (q0 : (List Frame)) (q1 : (List Frame)) (r : (List Frame)) (h : F41 N p1 q0 q1 = some r) : ACall Try.prog 41 [.sl (.B 0) 3 0 q0.length, .D (.I .i64 p1), .sl (.B 1) 3 0 q1.length] [some (.row true 3 (q0.map Frame.row)), some (.row true 3 (q1.map Frame.row))] (.sl (.O 0) 3 0 r.length) [none, none] [.row true 3 (r.map Frame.row)] := by
  unfold F41 at h
  obtain ⟨h1, h⟩ := F_gd h
  obtain ⟨h2, h⟩ := F_gd h
  obtain ⟨h3, h⟩ := F_gd h
  obtain rfl := Option.some.inj h
  have key := insert_ok (k := 3) (bytes := 32) (zs := [(.B .false), (.I .i64 0), (.S [])]) (fo := 50) (fr := 51) Try.func41 rfl (by kernel_rfl) (by kernel_rfl) Try.ntmps41 (by kernel_rfl) (by kernel_rfl) (by decide) (by decide) rfl
    (fun mt mt' o l o' l' c' es es' g1 g2 => ovl_ok Try.func50 (by kernel_rfl) (by kernel_rfl) (by kernel_rfl) (tS := 31) (tR := 4) (by kernel_rfl) Try.underlying31 (Option.some_get (by kernel_rfl : (Try.prog.info? 49).isSome = true)).symm mt mt' 3 o l o' l' c' es es' g1 g2)
    (q0.map Frame.row) (q1.map Frame.row) p1.toNat (by rw [List.length_map]; exact h2) (by rw [Frame.uni]; trivial) Frame.one (by rw [Frame.uni]; trivial) Frame.one (by rw [List.length_map, List.length_map]; exact h3)
  rw [List.length_map, List.length_map, Int.toNat_of_nonneg h1, ← List.map_take, ← List.map_drop, ← List.map_append, ← List.map_append] at key
  have hl : (q0.take p1.toNat ++ q1 ++ q0.drop p1.toNat).length = q0.length + q1.length := by simp; omega
  rw [hl]
  exact key

end Go.Proofs.Try

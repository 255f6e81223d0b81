/-
  No cell of these rows narrows 'for every input' (looked for: loops, veiled, ifaces, maps, wideKeys, modest, calm, conditions, laid).
  DERIVED. THE GIVEN ROWS OF THIS SEAT. 3 by the template 'for every input the law returns true; each argument reads behind the call as it read before'; 0 by the template 'total and deterministic' (their statements: YtloponjgedpffaaGreatTotals.lean).
  GIVEN WITH THE SEED: the statements are not yours to turn. If you find one false, say at which input.
  Laid BY PROGRAM, IN A SANDBOX (cutbox-rows.mjs): the forced cells as the released guide's own fill.sh prints them over the translation f1617a53082347e6… (all of the seat's roots in one cut). By AI agents, Wed Nov 11 2026. No macro, syntax, notation, axiom, sorry.
-/
import Derived.Test.YtloponjgedpffaaGreatChecked
import GoSem.Claim
import GoSem.ClaimJoined
import GoSem.ClaimMapViews
import Derived.JoinedTies
import Derived.KernelRfl
namespace Go.Proofs.YtloponjgedpffaaGreat
/- THE CELL 'sum', in the pinned program and in every row, IS THE sha256 OF THE DUMP (.gsa) THAT YtloponjgedpffaaGreatProg.lean LOADS. Nothing in Lean hashes anything: it is a label: what it is worth is what the hold of that sum in a sandbox is worth. -/
noncomputable def Tryz.pinned : Pinned := { name := "ytloponjgedpffaagreat", sum := "f1617a53082347e6c1a7dea0956064d0169fa65fbfe1caed3bb47a00fe9b93c6", checked := Tryz.checked }
namespace Rows
def none {H : Type} : Left H := { results := [], args := [] }

/-- 'rivermarklaw26.LineageIsAsSpecified': WHATEVER THE INPUT: true; the input reads as it did. -/
def lineageIsAsSpecifiedSpec : ChangeSpec := { name := "lineageIsAsSpecified", fn := fun _ => fun
  | [d1, d2, d3] => { results := [.lit (.bool true)], args := [d1, d2, d3] }
  | _ => none }
def lineageIsAsSpecifiedRow : OpenClaim := { program := "ytloponjgedpffaagreat", sum := "f1617a53082347e6c1a7dea0956064d0169fa65fbfe1caed3bb47a00fe9b93c6", func := "rivermark/rivermarklaw26.LineageIsAsSpecified", spec := "lineageIsAsSpecified", unfollowed := true, recurses := true, plainKeys := false, apart := false }
def LineageIsAsSpecifiedSaid : Prop := lineageIsAsSpecifiedRow.holds Tryz.pinned (OpenSpec.ofChange lineageIsAsSpecifiedSpec)

/-- ITS FALSE NEIGHBOUR: 'it returns false'. Refute it at one input. -/
def lineageIsAsSpecifiedWrong : ChangeSpec := { name := "lineageIsAsSpecified", fn := fun _ => fun
  | [d1, d2, d3] => { results := [.lit (.bool false)], args := [d1, d2, d3] }
  | _ => none }
def LineageIsAsSpecifiedWrongFalsely : Prop := lineageIsAsSpecifiedRow.holds Tryz.pinned (OpenSpec.ofChange lineageIsAsSpecifiedWrong)

/-- 'rivermarklaw26.LineageWavesAsSpecified': WHATEVER THE INPUT: true; the input reads as it did. -/
def lineageWavesAsSpecifiedSpec : ChangeSpec := { name := "lineageWavesAsSpecified", fn := fun _ => fun
  | [d1, d2, d3] => { results := [.lit (.bool true)], args := [d1, d2, d3] }
  | _ => none }
def lineageWavesAsSpecifiedRow : OpenClaim := { program := "ytloponjgedpffaagreat", sum := "f1617a53082347e6c1a7dea0956064d0169fa65fbfe1caed3bb47a00fe9b93c6", func := "rivermark/rivermarklaw26.LineageWavesAsSpecified", spec := "lineageWavesAsSpecified", unfollowed := true, recurses := true, plainKeys := false, apart := false }
def LineageWavesAsSpecifiedSaid : Prop := lineageWavesAsSpecifiedRow.holds Tryz.pinned (OpenSpec.ofChange lineageWavesAsSpecifiedSpec)

/-- ITS FALSE NEIGHBOUR: 'it returns false'. Refute it at one input. -/
def lineageWavesAsSpecifiedWrong : ChangeSpec := { name := "lineageWavesAsSpecified", fn := fun _ => fun
  | [d1, d2, d3] => { results := [.lit (.bool false)], args := [d1, d2, d3] }
  | _ => none }
def LineageWavesAsSpecifiedWrongFalsely : Prop := lineageWavesAsSpecifiedRow.holds Tryz.pinned (OpenSpec.ofChange lineageWavesAsSpecifiedWrong)

/-- 'rivermarklaw26.LineageStands': WHATEVER THE INPUT: true; the input reads as it did. -/
def lineageStandsSpec : ChangeSpec := { name := "lineageStands", fn := fun _ => fun
  | [d] => { results := [.lit (.bool true)], args := [d] }
  | _ => none }
def lineageStandsRow : OpenClaim := { program := "ytloponjgedpffaagreat", sum := "f1617a53082347e6c1a7dea0956064d0169fa65fbfe1caed3bb47a00fe9b93c6", func := "rivermark/rivermarklaw26.LineageStands", spec := "lineageStands", unfollowed := true, recurses := true, plainKeys := false, apart := false }
def LineageStandsSaid : Prop := lineageStandsRow.holds Tryz.pinned (OpenSpec.ofChange lineageStandsSpec)

/-- ITS FALSE NEIGHBOUR: 'it returns false'. Refute it at one input. -/
def lineageStandsWrong : ChangeSpec := { name := "lineageStands", fn := fun _ => fun
  | [d] => { results := [.lit (.bool false)], args := [d] }
  | _ => none }
def LineageStandsWrongFalsely : Prop := lineageStandsRow.holds Tryz.pinned (OpenSpec.ofChange lineageStandsWrong)

/- THE SECOND FORM. 'bulk': how many values and letters a reading holds, each counted each time it is reached (what is shared counts as often as it is met; a slice's spare places count too). A statement '..UptoSaid' is the law's where the arguments, and the package variables that the reading takes, are together of bulk at most 1048576: NARROWER than '..Said'. Prove '..Said' where nothing that the law and all that it calls make is longer than what came in: it says more and counts as full. Else prove '..UptoSaid'. A law counts once. -/
mutual
def uptoBulk {H : Type} : DataW H → Nat
  | .lit (.string bytes) => bytes.length + 1
  | .lit _ => 1
  | .nil => 1
  | .ptr d => uptoBulk d + 1
  | .slice elems spare => uptoBulkAll elems + uptoBulkAll spare + 1
  | .agg parts => uptoBulkAll parts + 1
  | .iface _ d => uptoBulk d + 1
  | .map entries => uptoBulkEntries entries + 1
  | .held _ => 1
def uptoBulkAll {H : Type} : List (DataW H) → Nat
  | [] => 0
  | d :: r => uptoBulk d + uptoBulkAll r
def uptoBulkEntries {H : Type} : List (Lit × DataW H) → Nat
  | [] => 0
  | x :: r => uptoBulkEntry x + uptoBulkEntries r
def uptoBulkEntry {H : Type} : Lit × DataW H → Nat
  | (.string bytes, d) => bytes.length + uptoBulk d + 1
  | (_, d) => uptoBulk d + 1
 end
def uptoSmall : (H : Type) → List (DataW H) → Bool := fun _ ds => decide (uptoBulkAll ds ≤ 1048576)
def OpenSpec.upto (s : _root_.Go.ChangeSpec) : _root_.Go.OpenSpec := { _root_.Go.OpenSpec.ofChange s with cond := some uptoSmall }

/-- 'rivermarklaw26.LineageIsAsSpecified', WHERE WHAT IT READS IS OF BULK AT MOST 1048576: true; the input reads as it did. -/
def lineageIsAsSpecifiedUptoRow : OpenClaim := { program := "ytloponjgedpffaagreat", sum := "f1617a53082347e6c1a7dea0956064d0169fa65fbfe1caed3bb47a00fe9b93c6", func := "rivermark/rivermarklaw26.LineageIsAsSpecified", spec := "lineageIsAsSpecified", unfollowed := true, recurses := true, plainKeys := false, apart := false, narrowed := true }
def LineageIsAsSpecifiedUptoSaid : Prop := lineageIsAsSpecifiedUptoRow.holds Tryz.pinned (OpenSpec.upto lineageIsAsSpecifiedSpec)

/-- 'rivermarklaw26.LineageWavesAsSpecified', WHERE WHAT IT READS IS OF BULK AT MOST 1048576: true; the input reads as it did. -/
def lineageWavesAsSpecifiedUptoRow : OpenClaim := { program := "ytloponjgedpffaagreat", sum := "f1617a53082347e6c1a7dea0956064d0169fa65fbfe1caed3bb47a00fe9b93c6", func := "rivermark/rivermarklaw26.LineageWavesAsSpecified", spec := "lineageWavesAsSpecified", unfollowed := true, recurses := true, plainKeys := false, apart := false, narrowed := true }
def LineageWavesAsSpecifiedUptoSaid : Prop := lineageWavesAsSpecifiedUptoRow.holds Tryz.pinned (OpenSpec.upto lineageWavesAsSpecifiedSpec)

/-- 'rivermarklaw26.LineageStands', WHERE WHAT IT READS IS OF BULK AT MOST 1048576: true; the input reads as it did. -/
def lineageStandsUptoRow : OpenClaim := { program := "ytloponjgedpffaagreat", sum := "f1617a53082347e6c1a7dea0956064d0169fa65fbfe1caed3bb47a00fe9b93c6", func := "rivermark/rivermarklaw26.LineageStands", spec := "lineageStands", unfollowed := true, recurses := true, plainKeys := false, apart := false, narrowed := true }
def LineageStandsUptoSaid : Prop := lineageStandsUptoRow.holds Tryz.pinned (OpenSpec.upto lineageStandsSpec)

end Rows
end Go.Proofs.YtloponjgedpffaaGreat

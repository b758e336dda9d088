/-
  No cell of these rows narrows 'for every input' (looked for: loops, veiled, ifaces, maps, wideKeys, modest, calm, conditions, laid).
  DERIVED. THE GIVEN ROWS OF THIS SEAT. 6 by the template 'for every input the law returns true; each argument reads behind the call as it read before'; 0 by the template 'total and deterministic' (their statements: YtebkmloaioegeaaTotals.lean).
  GIVEN WITH THE SEED: the statements are not yours to turn. If you find one false, say at which input.
  Laid BY PROGRAM, IN A SANDBOX (cutbox-rows.mjs): the forced cells as the released guide's own fill.sh prints them over the translation 3d3ea3f20757ed0a… (all of the seat's roots in one cut). By AI agents, Wed Nov 11 2026. No macro, syntax, notation, axiom, sorry.
-/
import Derived.Test.YtebkmloaioegeaaChecked
import GoSem.Claim
import GoSem.ClaimJoined
import GoSem.ClaimMapViews
import Derived.JoinedTies
import Derived.KernelRfl
namespace Go.Proofs.Ytebkmloaioegeaa
/- THE CELL 'sum', in the pinned program and in every row, IS THE sha256 OF THE DUMP (.gsa) THAT YtebkmloaioegeaaProg.lean LOADS. Nothing in Lean hashes anything: it is a label: what it is worth is what the hold of that sum in a sandbox is worth. -/
noncomputable def Try.pinned : Pinned := { name := "ytebkmloaioegeaa", sum := "3d3ea3f20757ed0a63cd6c33cc4d6e3a1a56fc77922baa7b3a32f39ca8ee0657", checked := Try.checked }
namespace Rows
def none {H : Type} : Left H := { results := [], args := [] }

/-- 'laws.FnExactBoardsMany': WHATEVER THE INPUT: true; the input reads as it did. -/
def fnExactBoardsManySpec : ChangeSpec := { name := "fnExactBoardsMany", fn := fun _ => fun
  | [d1, d2] => { results := [.lit (.bool true)], args := [d1, d2] }
  | _ => none }
def fnExactBoardsManyRow : OpenClaim := { program := "ytebkmloaioegeaa", sum := "3d3ea3f20757ed0a63cd6c33cc4d6e3a1a56fc77922baa7b3a32f39ca8ee0657", func := "loop.example/switchpuzzles/laws.FnExactBoardsMany", spec := "fnExactBoardsMany", plainKeys := false, apart := false }
def FnExactBoardsManySaid : Prop := fnExactBoardsManyRow.holds Try.pinned (OpenSpec.ofChange fnExactBoardsManySpec)

/-- ITS FALSE NEIGHBOUR: 'it returns false'. Refute it at one input. -/
def fnExactBoardsManyWrong : ChangeSpec := { name := "fnExactBoardsMany", fn := fun _ => fun
  | [d1, d2] => { results := [.lit (.bool false)], args := [d1, d2] }
  | _ => none }
def FnExactBoardsManyWrongFalsely : Prop := fnExactBoardsManyRow.holds Try.pinned (OpenSpec.ofChange fnExactBoardsManyWrong)

/-- 'laws.FnExactBoardWorst': WHATEVER THE INPUT: true; the input reads as it did. -/
def fnExactBoardWorstSpec : ChangeSpec := { name := "fnExactBoardWorst", fn := fun _ => fun
  | [d1, d2] => { results := [.lit (.bool true)], args := [d1, d2] }
  | _ => none }
def fnExactBoardWorstRow : OpenClaim := { program := "ytebkmloaioegeaa", sum := "3d3ea3f20757ed0a63cd6c33cc4d6e3a1a56fc77922baa7b3a32f39ca8ee0657", func := "loop.example/switchpuzzles/laws.FnExactBoardWorst", spec := "fnExactBoardWorst", plainKeys := false, apart := false }
def FnExactBoardWorstSaid : Prop := fnExactBoardWorstRow.holds Try.pinned (OpenSpec.ofChange fnExactBoardWorstSpec)

/-- ITS FALSE NEIGHBOUR: 'it returns false'. Refute it at one input. -/
def fnExactBoardWorstWrong : ChangeSpec := { name := "fnExactBoardWorst", fn := fun _ => fun
  | [d1, d2] => { results := [.lit (.bool false)], args := [d1, d2] }
  | _ => none }
def FnExactBoardWorstWrongFalsely : Prop := fnExactBoardWorstRow.holds Try.pinned (OpenSpec.ofChange fnExactBoardWorstWrong)

/-- 'laws.FnExactBoardLeast': WHATEVER THE INPUT: true; the input reads as it did. -/
def fnExactBoardLeastSpec : ChangeSpec := { name := "fnExactBoardLeast", fn := fun _ => fun
  | [d] => { results := [.lit (.bool true)], args := [d] }
  | _ => none }
def fnExactBoardLeastRow : OpenClaim := { program := "ytebkmloaioegeaa", sum := "3d3ea3f20757ed0a63cd6c33cc4d6e3a1a56fc77922baa7b3a32f39ca8ee0657", func := "loop.example/switchpuzzles/laws.FnExactBoardLeast", spec := "fnExactBoardLeast", plainKeys := false, apart := false }
def FnExactBoardLeastSaid : Prop := fnExactBoardLeastRow.holds Try.pinned (OpenSpec.ofChange fnExactBoardLeastSpec)

/-- ITS FALSE NEIGHBOUR: 'it returns false'. Refute it at one input. -/
def fnExactBoardLeastWrong : ChangeSpec := { name := "fnExactBoardLeast", fn := fun _ => fun
  | [d] => { results := [.lit (.bool false)], args := [d] }
  | _ => none }
def FnExactBoardLeastWrongFalsely : Prop := fnExactBoardLeastRow.holds Try.pinned (OpenSpec.ofChange fnExactBoardLeastWrong)

/-- 'laws.FnExactBoardWay': WHATEVER THE INPUT: true; the input reads as it did. -/
def fnExactBoardWaySpec : ChangeSpec := { name := "fnExactBoardWay", fn := fun _ => fun
  | [d] => { results := [.lit (.bool true)], args := [d] }
  | _ => none }
def fnExactBoardWayRow : OpenClaim := { program := "ytebkmloaioegeaa", sum := "3d3ea3f20757ed0a63cd6c33cc4d6e3a1a56fc77922baa7b3a32f39ca8ee0657", func := "loop.example/switchpuzzles/laws.FnExactBoardWay", spec := "fnExactBoardWay", plainKeys := false, apart := false }
def FnExactBoardWaySaid : Prop := fnExactBoardWayRow.holds Try.pinned (OpenSpec.ofChange fnExactBoardWaySpec)

/-- ITS FALSE NEIGHBOUR: 'it returns false'. Refute it at one input. -/
def fnExactBoardWayWrong : ChangeSpec := { name := "fnExactBoardWay", fn := fun _ => fun
  | [d] => { results := [.lit (.bool false)], args := [d] }
  | _ => none }
def FnExactBoardWayWrongFalsely : Prop := fnExactBoardWayRow.holds Try.pinned (OpenSpec.ofChange fnExactBoardWayWrong)

/-- 'laws.FnBoardDone': WHATEVER THE INPUT: true; the input reads as it did. -/
def fnBoardDoneSpec : ChangeSpec := { name := "fnBoardDone", fn := fun _ => fun
  | [d] => { results := [.lit (.bool true)], args := [d] }
  | _ => none }
def fnBoardDoneRow : OpenClaim := { program := "ytebkmloaioegeaa", sum := "3d3ea3f20757ed0a63cd6c33cc4d6e3a1a56fc77922baa7b3a32f39ca8ee0657", func := "loop.example/switchpuzzles/laws.FnBoardDone", spec := "fnBoardDone", plainKeys := false, apart := false }
def FnBoardDoneSaid : Prop := fnBoardDoneRow.holds Try.pinned (OpenSpec.ofChange fnBoardDoneSpec)

/-- ITS FALSE NEIGHBOUR: 'it returns false'. Refute it at one input. -/
def fnBoardDoneWrong : ChangeSpec := { name := "fnBoardDone", fn := fun _ => fun
  | [d] => { results := [.lit (.bool false)], args := [d] }
  | _ => none }
def FnBoardDoneWrongFalsely : Prop := fnBoardDoneRow.holds Try.pinned (OpenSpec.ofChange fnBoardDoneWrong)

/-- 'laws.FnBoardWorst': WHATEVER THE INPUT: true; the input reads as it did. -/
def fnBoardWorstSpec : ChangeSpec := { name := "fnBoardWorst", fn := fun _ => fun
  | [d] => { results := [.lit (.bool true)], args := [d] }
  | _ => none }
def fnBoardWorstRow : OpenClaim := { program := "ytebkmloaioegeaa", sum := "3d3ea3f20757ed0a63cd6c33cc4d6e3a1a56fc77922baa7b3a32f39ca8ee0657", func := "loop.example/switchpuzzles/laws.FnBoardWorst", spec := "fnBoardWorst", plainKeys := false, apart := false }
def FnBoardWorstSaid : Prop := fnBoardWorstRow.holds Try.pinned (OpenSpec.ofChange fnBoardWorstSpec)

/-- ITS FALSE NEIGHBOUR: 'it returns false'. Refute it at one input. -/
def fnBoardWorstWrong : ChangeSpec := { name := "fnBoardWorst", fn := fun _ => fun
  | [d] => { results := [.lit (.bool false)], args := [d] }
  | _ => none }
def FnBoardWorstWrongFalsely : Prop := fnBoardWorstRow.holds Try.pinned (OpenSpec.ofChange fnBoardWorstWrong)

/- THE SECOND FORM. 'bulk': how many values and letters a reading holds, each counted each time it is reached (what is shared counts as often as it is met; a slice's spare places count too). A statement '..UptoSaid' is the law's where the arguments, and the package variables that the reading takes, are together of bulk at most 1048576: NARROWER than '..Said'. Prove '..Said' where nothing that the law and all that it calls make is longer than what came in: it says more and counts as full. Else prove '..UptoSaid'. A law counts once. -/
mutual
def uptoBulk {H : Type} : DataW H → Nat
  | .lit (.string bytes) => bytes.length + 1
  | .lit _ => 1
  | .nil => 1
  | .ptr d => uptoBulk d + 1
  | .slice elems spare => uptoBulkAll elems + uptoBulkAll spare + 1
  | .agg parts => uptoBulkAll parts + 1
  | .iface _ d => uptoBulk d + 1
  | .map entries => uptoBulkEntries entries + 1
  | .held _ => 1
def uptoBulkAll {H : Type} : List (DataW H) → Nat
  | [] => 0
  | d :: r => uptoBulk d + uptoBulkAll r
def uptoBulkEntries {H : Type} : List (Lit × DataW H) → Nat
  | [] => 0
  | x :: r => uptoBulkEntry x + uptoBulkEntries r
def uptoBulkEntry {H : Type} : Lit × DataW H → Nat
  | (.string bytes, d) => bytes.length + uptoBulk d + 1
  | (_, d) => uptoBulk d + 1
 end
def uptoSmall : (H : Type) → List (DataW H) → Bool := fun _ ds => decide (uptoBulkAll ds ≤ 1048576)
def OpenSpec.upto (s : _root_.Go.ChangeSpec) : _root_.Go.OpenSpec := { _root_.Go.OpenSpec.ofChange s with cond := some uptoSmall }

/-- 'laws.FnExactBoardsMany', WHERE WHAT IT READS IS OF BULK AT MOST 1048576: true; the input reads as it did. -/
def fnExactBoardsManyUptoRow : OpenClaim := { program := "ytebkmloaioegeaa", sum := "3d3ea3f20757ed0a63cd6c33cc4d6e3a1a56fc77922baa7b3a32f39ca8ee0657", func := "loop.example/switchpuzzles/laws.FnExactBoardsMany", spec := "fnExactBoardsMany", plainKeys := false, apart := false, narrowed := true }
def FnExactBoardsManyUptoSaid : Prop := fnExactBoardsManyUptoRow.holds Try.pinned (OpenSpec.upto fnExactBoardsManySpec)

/-- 'laws.FnExactBoardWorst', WHERE WHAT IT READS IS OF BULK AT MOST 1048576: true; the input reads as it did. -/
def fnExactBoardWorstUptoRow : OpenClaim := { program := "ytebkmloaioegeaa", sum := "3d3ea3f20757ed0a63cd6c33cc4d6e3a1a56fc77922baa7b3a32f39ca8ee0657", func := "loop.example/switchpuzzles/laws.FnExactBoardWorst", spec := "fnExactBoardWorst", plainKeys := false, apart := false, narrowed := true }
def FnExactBoardWorstUptoSaid : Prop := fnExactBoardWorstUptoRow.holds Try.pinned (OpenSpec.upto fnExactBoardWorstSpec)

/-- 'laws.FnExactBoardLeast', WHERE WHAT IT READS IS OF BULK AT MOST 1048576: true; the input reads as it did. -/
def fnExactBoardLeastUptoRow : OpenClaim := { program := "ytebkmloaioegeaa", sum := "3d3ea3f20757ed0a63cd6c33cc4d6e3a1a56fc77922baa7b3a32f39ca8ee0657", func := "loop.example/switchpuzzles/laws.FnExactBoardLeast", spec := "fnExactBoardLeast", plainKeys := false, apart := false, narrowed := true }
def FnExactBoardLeastUptoSaid : Prop := fnExactBoardLeastUptoRow.holds Try.pinned (OpenSpec.upto fnExactBoardLeastSpec)

/-- 'laws.FnExactBoardWay', WHERE WHAT IT READS IS OF BULK AT MOST 1048576: true; the input reads as it did. -/
def fnExactBoardWayUptoRow : OpenClaim := { program := "ytebkmloaioegeaa", sum := "3d3ea3f20757ed0a63cd6c33cc4d6e3a1a56fc77922baa7b3a32f39ca8ee0657", func := "loop.example/switchpuzzles/laws.FnExactBoardWay", spec := "fnExactBoardWay", plainKeys := false, apart := false, narrowed := true }
def FnExactBoardWayUptoSaid : Prop := fnExactBoardWayUptoRow.holds Try.pinned (OpenSpec.upto fnExactBoardWaySpec)

/-- 'laws.FnBoardDone', WHERE WHAT IT READS IS OF BULK AT MOST 1048576: true; the input reads as it did. -/
def fnBoardDoneUptoRow : OpenClaim := { program := "ytebkmloaioegeaa", sum := "3d3ea3f20757ed0a63cd6c33cc4d6e3a1a56fc77922baa7b3a32f39ca8ee0657", func := "loop.example/switchpuzzles/laws.FnBoardDone", spec := "fnBoardDone", plainKeys := false, apart := false, narrowed := true }
def FnBoardDoneUptoSaid : Prop := fnBoardDoneUptoRow.holds Try.pinned (OpenSpec.upto fnBoardDoneSpec)

/-- 'laws.FnBoardWorst', WHERE WHAT IT READS IS OF BULK AT MOST 1048576: true; the input reads as it did. -/
def fnBoardWorstUptoRow : OpenClaim := { program := "ytebkmloaioegeaa", sum := "3d3ea3f20757ed0a63cd6c33cc4d6e3a1a56fc77922baa7b3a32f39ca8ee0657", func := "loop.example/switchpuzzles/laws.FnBoardWorst", spec := "fnBoardWorst", plainKeys := false, apart := false, narrowed := true }
def FnBoardWorstUptoSaid : Prop := fnBoardWorstUptoRow.holds Try.pinned (OpenSpec.upto fnBoardWorstSpec)

end Rows
end Go.Proofs.Ytebkmloaioegeaa

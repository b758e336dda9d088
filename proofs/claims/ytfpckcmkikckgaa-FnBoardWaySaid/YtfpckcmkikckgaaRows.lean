/-
  No cell of these rows narrows 'for every input' (looked for: loops, veiled, ifaces, maps, wideKeys, modest, calm, conditions, laid).
  DERIVED. THE GIVEN ROWS OF THIS SEAT. 5 by the template 'for every input the law returns true; each argument reads behind the call as it read before'; 0 by the template 'total and deterministic' (their statements: YtfpckcmkikckgaaTotals.lean).
  GIVEN WITH THE SEED: the statements are not yours to turn. If you find one false, say at which input.
  Laid BY PROGRAM, IN A SANDBOX (cutbox-rows.mjs): the forced cells as the released guide's own fill.sh prints them over the translation 49d9eb41a1a87c9f… (all of the seat's roots in one cut). By AI agents, Wed Nov 11 2026. No macro, syntax, notation, axiom, sorry.
-/
import Derived.Test.YtfpckcmkikckgaaChecked
import GoSem.Claim
import GoSem.ClaimJoined
import GoSem.ClaimMapViews
import Derived.JoinedTies
import Derived.KernelRfl
namespace Go.Proofs.Ytfpckcmkikckgaa
/- THE CELL 'sum', in the pinned program and in every row, IS THE sha256 OF THE DUMP (.gsa) THAT YtfpckcmkikckgaaProg.lean LOADS. Nothing in Lean hashes anything: it is a label: what it is worth is what the hold of that sum in a sandbox is worth. -/
noncomputable def Try.pinned : Pinned := { name := "ytfpckcmkikckgaa", sum := "49d9eb41a1a87c9f1dc49ef8c4b2cec08b70ff7d63c7269172c542ebf4623455", checked := Try.checked }
namespace Rows
def none {H : Type} : Left H := { results := [], args := [] }

/-- 'laws.FnBoardLeast': WHATEVER THE INPUT: true; the input reads as it did. -/
def fnBoardLeastSpec : ChangeSpec := { name := "fnBoardLeast", fn := fun _ => fun
  | [d] => { results := [.lit (.bool true)], args := [d] }
  | _ => none }
def fnBoardLeastRow : OpenClaim := { program := "ytfpckcmkikckgaa", sum := "49d9eb41a1a87c9f1dc49ef8c4b2cec08b70ff7d63c7269172c542ebf4623455", func := "loop.example/switchpuzzles/laws.FnBoardLeast", spec := "fnBoardLeast", plainKeys := false, apart := false }
def FnBoardLeastSaid : Prop := fnBoardLeastRow.holds Try.pinned (OpenSpec.ofChange fnBoardLeastSpec)

/-- ITS FALSE NEIGHBOUR: 'it returns false'. Refute it at one input. -/
def fnBoardLeastWrong : ChangeSpec := { name := "fnBoardLeast", fn := fun _ => fun
  | [d] => { results := [.lit (.bool false)], args := [d] }
  | _ => none }
def FnBoardLeastWrongFalsely : Prop := fnBoardLeastRow.holds Try.pinned (OpenSpec.ofChange fnBoardLeastWrong)

/-- 'laws.FnBoardWay': WHATEVER THE INPUT: true; the input reads as it did. -/
def fnBoardWaySpec : ChangeSpec := { name := "fnBoardWay", fn := fun _ => fun
  | [d] => { results := [.lit (.bool true)], args := [d] }
  | _ => none }
def fnBoardWayRow : OpenClaim := { program := "ytfpckcmkikckgaa", sum := "49d9eb41a1a87c9f1dc49ef8c4b2cec08b70ff7d63c7269172c542ebf4623455", func := "loop.example/switchpuzzles/laws.FnBoardWay", spec := "fnBoardWay", plainKeys := false, apart := false }
def FnBoardWaySaid : Prop := fnBoardWayRow.holds Try.pinned (OpenSpec.ofChange fnBoardWaySpec)

/-- ITS FALSE NEIGHBOUR: 'it returns false'. Refute it at one input. -/
def fnBoardWayWrong : ChangeSpec := { name := "fnBoardWay", fn := fun _ => fun
  | [d] => { results := [.lit (.bool false)], args := [d] }
  | _ => none }
def FnBoardWayWrongFalsely : Prop := fnBoardWayRow.holds Try.pinned (OpenSpec.ofChange fnBoardWayWrong)

/-- 'laws.FnBoardsMany': WHATEVER THE INPUT: true; the input reads as it did. -/
def fnBoardsManySpec : ChangeSpec := { name := "fnBoardsMany", fn := fun _ => fun
  | [d] => { results := [.lit (.bool true)], args := [d] }
  | _ => none }
def fnBoardsManyRow : OpenClaim := { program := "ytfpckcmkikckgaa", sum := "49d9eb41a1a87c9f1dc49ef8c4b2cec08b70ff7d63c7269172c542ebf4623455", func := "loop.example/switchpuzzles/laws.FnBoardsMany", spec := "fnBoardsMany", plainKeys := false, apart := false }
def FnBoardsManySaid : Prop := fnBoardsManyRow.holds Try.pinned (OpenSpec.ofChange fnBoardsManySpec)

/-- ITS FALSE NEIGHBOUR: 'it returns false'. Refute it at one input. -/
def fnBoardsManyWrong : ChangeSpec := { name := "fnBoardsMany", fn := fun _ => fun
  | [d] => { results := [.lit (.bool false)], args := [d] }
  | _ => none }
def FnBoardsManyWrongFalsely : Prop := fnBoardsManyRow.holds Try.pinned (OpenSpec.ofChange fnBoardsManyWrong)

/-- 'laws.FnTilesFar': WHATEVER THE INPUT: true; the input reads as it did. -/
def fnTilesFarSpec : ChangeSpec := { name := "fnTilesFar", fn := fun _ => fun
  | [d] => { results := [.lit (.bool true)], args := [d] }
  | _ => none }
def fnTilesFarRow : OpenClaim := { program := "ytfpckcmkikckgaa", sum := "49d9eb41a1a87c9f1dc49ef8c4b2cec08b70ff7d63c7269172c542ebf4623455", func := "loop.example/switchpuzzles/laws.FnTilesFar", spec := "fnTilesFar", plainKeys := false, apart := false }
def FnTilesFarSaid : Prop := fnTilesFarRow.holds Try.pinned (OpenSpec.ofChange fnTilesFarSpec)

/-- ITS FALSE NEIGHBOUR: 'it returns false'. Refute it at one input. -/
def fnTilesFarWrong : ChangeSpec := { name := "fnTilesFar", fn := fun _ => fun
  | [d] => { results := [.lit (.bool false)], args := [d] }
  | _ => none }
def FnTilesFarWrongFalsely : Prop := fnTilesFarRow.holds Try.pinned (OpenSpec.ofChange fnTilesFarWrong)

/-- 'laws.FnBoardMay': WHATEVER THE INPUT: true; the input reads as it did. -/
def fnBoardMaySpec : ChangeSpec := { name := "fnBoardMay", fn := fun _ => fun
  | [d] => { results := [.lit (.bool true)], args := [d] }
  | _ => none }
def fnBoardMayRow : OpenClaim := { program := "ytfpckcmkikckgaa", sum := "49d9eb41a1a87c9f1dc49ef8c4b2cec08b70ff7d63c7269172c542ebf4623455", func := "loop.example/switchpuzzles/laws.FnBoardMay", spec := "fnBoardMay", plainKeys := false, apart := false }
def FnBoardMaySaid : Prop := fnBoardMayRow.holds Try.pinned (OpenSpec.ofChange fnBoardMaySpec)

/-- ITS FALSE NEIGHBOUR: 'it returns false'. Refute it at one input. -/
def fnBoardMayWrong : ChangeSpec := { name := "fnBoardMay", fn := fun _ => fun
  | [d] => { results := [.lit (.bool false)], args := [d] }
  | _ => none }
def FnBoardMayWrongFalsely : Prop := fnBoardMayRow.holds Try.pinned (OpenSpec.ofChange fnBoardMayWrong)

/- THE SECOND FORM. 'bulk': how many values and letters a reading holds, each counted each time it is reached (what is shared counts as often as it is met; a slice's spare places count too). A statement '..UptoSaid' is the law's where the arguments, and the package variables that the reading takes, are together of bulk at most 1048576: NARROWER than '..Said'. Prove '..Said' where nothing that the law and all that it calls make is longer than what came in: it says more and counts as full. Else prove '..UptoSaid'. A law counts once. -/
mutual
def uptoBulk {H : Type} : DataW H → Nat
  | .lit (.string bytes) => bytes.length + 1
  | .lit _ => 1
  | .nil => 1
  | .ptr d => uptoBulk d + 1
  | .slice elems spare => uptoBulkAll elems + uptoBulkAll spare + 1
  | .agg parts => uptoBulkAll parts + 1
  | .iface _ d => uptoBulk d + 1
  | .map entries => uptoBulkEntries entries + 1
  | .held _ => 1
def uptoBulkAll {H : Type} : List (DataW H) → Nat
  | [] => 0
  | d :: r => uptoBulk d + uptoBulkAll r
def uptoBulkEntries {H : Type} : List (Lit × DataW H) → Nat
  | [] => 0
  | x :: r => uptoBulkEntry x + uptoBulkEntries r
def uptoBulkEntry {H : Type} : Lit × DataW H → Nat
  | (.string bytes, d) => bytes.length + uptoBulk d + 1
  | (_, d) => uptoBulk d + 1
 end
def uptoSmall : (H : Type) → List (DataW H) → Bool := fun _ ds => decide (uptoBulkAll ds ≤ 1048576)
def OpenSpec.upto (s : _root_.Go.ChangeSpec) : _root_.Go.OpenSpec := { _root_.Go.OpenSpec.ofChange s with cond := some uptoSmall }

/-- 'laws.FnBoardLeast', WHERE WHAT IT READS IS OF BULK AT MOST 1048576: true; the input reads as it did. -/
def fnBoardLeastUptoRow : OpenClaim := { program := "ytfpckcmkikckgaa", sum := "49d9eb41a1a87c9f1dc49ef8c4b2cec08b70ff7d63c7269172c542ebf4623455", func := "loop.example/switchpuzzles/laws.FnBoardLeast", spec := "fnBoardLeast", plainKeys := false, apart := false, narrowed := true }
def FnBoardLeastUptoSaid : Prop := fnBoardLeastUptoRow.holds Try.pinned (OpenSpec.upto fnBoardLeastSpec)

/-- 'laws.FnBoardWay', WHERE WHAT IT READS IS OF BULK AT MOST 1048576: true; the input reads as it did. -/
def fnBoardWayUptoRow : OpenClaim := { program := "ytfpckcmkikckgaa", sum := "49d9eb41a1a87c9f1dc49ef8c4b2cec08b70ff7d63c7269172c542ebf4623455", func := "loop.example/switchpuzzles/laws.FnBoardWay", spec := "fnBoardWay", plainKeys := false, apart := false, narrowed := true }
def FnBoardWayUptoSaid : Prop := fnBoardWayUptoRow.holds Try.pinned (OpenSpec.upto fnBoardWaySpec)

/-- 'laws.FnBoardsMany', WHERE WHAT IT READS IS OF BULK AT MOST 1048576: true; the input reads as it did. -/
def fnBoardsManyUptoRow : OpenClaim := { program := "ytfpckcmkikckgaa", sum := "49d9eb41a1a87c9f1dc49ef8c4b2cec08b70ff7d63c7269172c542ebf4623455", func := "loop.example/switchpuzzles/laws.FnBoardsMany", spec := "fnBoardsMany", plainKeys := false, apart := false, narrowed := true }
def FnBoardsManyUptoSaid : Prop := fnBoardsManyUptoRow.holds Try.pinned (OpenSpec.upto fnBoardsManySpec)

/-- 'laws.FnTilesFar', WHERE WHAT IT READS IS OF BULK AT MOST 1048576: true; the input reads as it did. -/
def fnTilesFarUptoRow : OpenClaim := { program := "ytfpckcmkikckgaa", sum := "49d9eb41a1a87c9f1dc49ef8c4b2cec08b70ff7d63c7269172c542ebf4623455", func := "loop.example/switchpuzzles/laws.FnTilesFar", spec := "fnTilesFar", plainKeys := false, apart := false, narrowed := true }
def FnTilesFarUptoSaid : Prop := fnTilesFarUptoRow.holds Try.pinned (OpenSpec.upto fnTilesFarSpec)

/-- 'laws.FnBoardMay', WHERE WHAT IT READS IS OF BULK AT MOST 1048576: true; the input reads as it did. -/
def fnBoardMayUptoRow : OpenClaim := { program := "ytfpckcmkikckgaa", sum := "49d9eb41a1a87c9f1dc49ef8c4b2cec08b70ff7d63c7269172c542ebf4623455", func := "loop.example/switchpuzzles/laws.FnBoardMay", spec := "fnBoardMay", plainKeys := false, apart := false, narrowed := true }
def FnBoardMayUptoSaid : Prop := fnBoardMayUptoRow.holds Try.pinned (OpenSpec.upto fnBoardMaySpec)

end Rows
end Go.Proofs.Ytfpckcmkikckgaa

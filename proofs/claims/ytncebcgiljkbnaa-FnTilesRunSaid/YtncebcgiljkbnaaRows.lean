/-
  No cell of these rows narrows 'for every input' (looked for: loops, veiled, ifaces, maps, wideKeys, modest, calm, conditions, laid).
  DERIVED. THE GIVEN ROWS OF THIS SEAT. 6 by the template 'for every input the law returns true; each argument reads behind the call as it read before'; 0 by the template 'total and deterministic' (their statements: YtncebcgiljkbnaaTotals.lean).
  GIVEN WITH THE SEED: the statements are not yours to turn. If you find one false, say at which input.
  Laid BY PROGRAM, IN A SANDBOX (cutbox-rows.mjs): the forced cells as the released guide's own fill.sh prints them over the translation 8bbb8d79b795062b… (all of the seat's roots in one cut). By AI agents, Wed Nov 11 2026. No macro, syntax, notation, axiom, sorry.
-/
import Derived.Test.YtncebcgiljkbnaaChecked
import GoSem.Claim
import GoSem.ClaimJoined
import GoSem.ClaimMapViews
import Derived.JoinedTies
import Derived.KernelRfl
namespace Go.Proofs.Ytncebcgiljkbnaa
/- THE CELL 'sum', in the pinned program and in every row, IS THE sha256 OF THE DUMP (.gsa) THAT YtncebcgiljkbnaaProg.lean LOADS. Nothing in Lean hashes anything: it is a label: what it is worth is what the hold of that sum in a sandbox is worth. -/
noncomputable def Try.pinned : Pinned := { name := "ytncebcgiljkbnaa", sum := "8bbb8d79b795062b28bb11fe045b8bbf8d416ca31ac5aa428bfebc0498efcfac", checked := Try.checked }
namespace Rows
def none {H : Type} : Left H := { results := [], args := [] }

/-- 'laws.FnReadBoard': WHATEVER THE INPUT: true; the input reads as it did. -/
def fnReadBoardSpec : ChangeSpec := { name := "fnReadBoard", fn := fun _ => fun
  | [d] => { results := [.lit (.bool true)], args := [d] }
  | _ => none }
def fnReadBoardRow : OpenClaim := { program := "ytncebcgiljkbnaa", sum := "8bbb8d79b795062b28bb11fe045b8bbf8d416ca31ac5aa428bfebc0498efcfac", func := "loop.example/switchpuzzles/laws.FnReadBoard", spec := "fnReadBoard", inPlace := ["internal/abi.NoEscape"], recurses := true, plainKeys := false, apart := false }
def FnReadBoardSaid : Prop := fnReadBoardRow.holds Try.pinned (OpenSpec.ofChange fnReadBoardSpec)

/-- ITS FALSE NEIGHBOUR: 'it returns false'. Refute it at one input. -/
def fnReadBoardWrong : ChangeSpec := { name := "fnReadBoard", fn := fun _ => fun
  | [d] => { results := [.lit (.bool false)], args := [d] }
  | _ => none }
def FnReadBoardWrongFalsely : Prop := fnReadBoardRow.holds Try.pinned (OpenSpec.ofChange fnReadBoardWrong)

/-- 'laws.FnBoardText': WHATEVER THE INPUT: true; the input reads as it did. -/
def fnBoardTextSpec : ChangeSpec := { name := "fnBoardText", fn := fun _ => fun
  | [d] => { results := [.lit (.bool true)], args := [d] }
  | _ => none }
def fnBoardTextRow : OpenClaim := { program := "ytncebcgiljkbnaa", sum := "8bbb8d79b795062b28bb11fe045b8bbf8d416ca31ac5aa428bfebc0498efcfac", func := "loop.example/switchpuzzles/laws.FnBoardText", spec := "fnBoardText", inPlace := ["internal/abi.NoEscape"], recurses := true, plainKeys := false, apart := false }
def FnBoardTextSaid : Prop := fnBoardTextRow.holds Try.pinned (OpenSpec.ofChange fnBoardTextSpec)

/-- ITS FALSE NEIGHBOUR: 'it returns false'. Refute it at one input. -/
def fnBoardTextWrong : ChangeSpec := { name := "fnBoardText", fn := fun _ => fun
  | [d] => { results := [.lit (.bool false)], args := [d] }
  | _ => none }
def FnBoardTextWrongFalsely : Prop := fnBoardTextRow.holds Try.pinned (OpenSpec.ofChange fnBoardTextWrong)

/-- 'laws.FnTileMove': WHATEVER THE INPUT: true; the input reads as it did. -/
def fnTileMoveSpec : ChangeSpec := { name := "fnTileMove", fn := fun _ => fun
  | [d] => { results := [.lit (.bool true)], args := [d] }
  | _ => none }
def fnTileMoveRow : OpenClaim := { program := "ytncebcgiljkbnaa", sum := "8bbb8d79b795062b28bb11fe045b8bbf8d416ca31ac5aa428bfebc0498efcfac", func := "loop.example/switchpuzzles/laws.FnTileMove", spec := "fnTileMove", plainKeys := false, apart := false }
def FnTileMoveSaid : Prop := fnTileMoveRow.holds Try.pinned (OpenSpec.ofChange fnTileMoveSpec)

/-- ITS FALSE NEIGHBOUR: 'it returns false'. Refute it at one input. -/
def fnTileMoveWrong : ChangeSpec := { name := "fnTileMove", fn := fun _ => fun
  | [d] => { results := [.lit (.bool false)], args := [d] }
  | _ => none }
def FnTileMoveWrongFalsely : Prop := fnTileMoveRow.holds Try.pinned (OpenSpec.ofChange fnTileMoveWrong)

/-- 'laws.FnTilesRun': WHATEVER THE INPUT: true; the input reads as it did. -/
def fnTilesRunSpec : ChangeSpec := { name := "fnTilesRun", fn := fun _ => fun
  | [d] => { results := [.lit (.bool true)], args := [d] }
  | _ => none }
def fnTilesRunRow : OpenClaim := { program := "ytncebcgiljkbnaa", sum := "8bbb8d79b795062b28bb11fe045b8bbf8d416ca31ac5aa428bfebc0498efcfac", func := "loop.example/switchpuzzles/laws.FnTilesRun", spec := "fnTilesRun", plainKeys := false, apart := false }
def FnTilesRunSaid : Prop := fnTilesRunRow.holds Try.pinned (OpenSpec.ofChange fnTilesRunSpec)

/-- ITS FALSE NEIGHBOUR: 'it returns false'. Refute it at one input. -/
def fnTilesRunWrong : ChangeSpec := { name := "fnTilesRun", fn := fun _ => fun
  | [d] => { results := [.lit (.bool false)], args := [d] }
  | _ => none }
def FnTilesRunWrongFalsely : Prop := fnTilesRunRow.holds Try.pinned (OpenSpec.ofChange fnTilesRunWrong)

/-- 'laws.FnBoardMay': WHATEVER THE INPUT: true; the input reads as it did. -/
def fnBoardMaySpec : ChangeSpec := { name := "fnBoardMay", fn := fun _ => fun
  | [d] => { results := [.lit (.bool true)], args := [d] }
  | _ => none }
def fnBoardMayRow : OpenClaim := { program := "ytncebcgiljkbnaa", sum := "8bbb8d79b795062b28bb11fe045b8bbf8d416ca31ac5aa428bfebc0498efcfac", func := "loop.example/switchpuzzles/laws.FnBoardMay", spec := "fnBoardMay", plainKeys := false, apart := false }
def FnBoardMaySaid : Prop := fnBoardMayRow.holds Try.pinned (OpenSpec.ofChange fnBoardMaySpec)

/-- ITS FALSE NEIGHBOUR: 'it returns false'. Refute it at one input. -/
def fnBoardMayWrong : ChangeSpec := { name := "fnBoardMay", fn := fun _ => fun
  | [d] => { results := [.lit (.bool false)], args := [d] }
  | _ => none }
def FnBoardMayWrongFalsely : Prop := fnBoardMayRow.holds Try.pinned (OpenSpec.ofChange fnBoardMayWrong)

/-- 'laws.FnTilesFar': WHATEVER THE INPUT: true; the input reads as it did. -/
def fnTilesFarSpec : ChangeSpec := { name := "fnTilesFar", fn := fun _ => fun
  | [d] => { results := [.lit (.bool true)], args := [d] }
  | _ => none }
def fnTilesFarRow : OpenClaim := { program := "ytncebcgiljkbnaa", sum := "8bbb8d79b795062b28bb11fe045b8bbf8d416ca31ac5aa428bfebc0498efcfac", func := "loop.example/switchpuzzles/laws.FnTilesFar", spec := "fnTilesFar", plainKeys := false, apart := false }
def FnTilesFarSaid : Prop := fnTilesFarRow.holds Try.pinned (OpenSpec.ofChange fnTilesFarSpec)

/-- ITS FALSE NEIGHBOUR: 'it returns false'. Refute it at one input. -/
def fnTilesFarWrong : ChangeSpec := { name := "fnTilesFar", fn := fun _ => fun
  | [d] => { results := [.lit (.bool false)], args := [d] }
  | _ => none }
def FnTilesFarWrongFalsely : Prop := fnTilesFarRow.holds Try.pinned (OpenSpec.ofChange fnTilesFarWrong)

/- THE SECOND FORM. 'bulk': how many values and letters a reading holds, each counted each time it is reached (what is shared counts as often as it is met; a slice's spare places count too). A statement '..UptoSaid' is the law's where the arguments, and the package variables that the reading takes, are together of bulk at most 1048576: NARROWER than '..Said'. Prove '..Said' where nothing that the law and all that it calls make is longer than what came in: it says more and counts as full. Else prove '..UptoSaid'. A law counts once. -/
mutual
def uptoBulk {H : Type} : DataW H → Nat
  | .lit (.string bytes) => bytes.length + 1
  | .lit _ => 1
  | .nil => 1
  | .ptr d => uptoBulk d + 1
  | .slice elems spare => uptoBulkAll elems + uptoBulkAll spare + 1
  | .agg parts => uptoBulkAll parts + 1
  | .iface _ d => uptoBulk d + 1
  | .map entries => uptoBulkEntries entries + 1
  | .held _ => 1
def uptoBulkAll {H : Type} : List (DataW H) → Nat
  | [] => 0
  | d :: r => uptoBulk d + uptoBulkAll r
def uptoBulkEntries {H : Type} : List (Lit × DataW H) → Nat
  | [] => 0
  | x :: r => uptoBulkEntry x + uptoBulkEntries r
def uptoBulkEntry {H : Type} : Lit × DataW H → Nat
  | (.string bytes, d) => bytes.length + uptoBulk d + 1
  | (_, d) => uptoBulk d + 1
 end
def uptoSmall : (H : Type) → List (DataW H) → Bool := fun _ ds => decide (uptoBulkAll ds ≤ 1048576)
def OpenSpec.upto (s : _root_.Go.ChangeSpec) : _root_.Go.OpenSpec := { _root_.Go.OpenSpec.ofChange s with cond := some uptoSmall }

/-- 'laws.FnReadBoard', WHERE WHAT IT READS IS OF BULK AT MOST 1048576: true; the input reads as it did. -/
def fnReadBoardUptoRow : OpenClaim := { program := "ytncebcgiljkbnaa", sum := "8bbb8d79b795062b28bb11fe045b8bbf8d416ca31ac5aa428bfebc0498efcfac", func := "loop.example/switchpuzzles/laws.FnReadBoard", spec := "fnReadBoard", inPlace := ["internal/abi.NoEscape"], recurses := true, plainKeys := false, apart := false, narrowed := true }
def FnReadBoardUptoSaid : Prop := fnReadBoardUptoRow.holds Try.pinned (OpenSpec.upto fnReadBoardSpec)

/-- 'laws.FnBoardText', WHERE WHAT IT READS IS OF BULK AT MOST 1048576: true; the input reads as it did. -/
def fnBoardTextUptoRow : OpenClaim := { program := "ytncebcgiljkbnaa", sum := "8bbb8d79b795062b28bb11fe045b8bbf8d416ca31ac5aa428bfebc0498efcfac", func := "loop.example/switchpuzzles/laws.FnBoardText", spec := "fnBoardText", inPlace := ["internal/abi.NoEscape"], recurses := true, plainKeys := false, apart := false, narrowed := true }
def FnBoardTextUptoSaid : Prop := fnBoardTextUptoRow.holds Try.pinned (OpenSpec.upto fnBoardTextSpec)

/-- 'laws.FnTileMove', WHERE WHAT IT READS IS OF BULK AT MOST 1048576: true; the input reads as it did. -/
def fnTileMoveUptoRow : OpenClaim := { program := "ytncebcgiljkbnaa", sum := "8bbb8d79b795062b28bb11fe045b8bbf8d416ca31ac5aa428bfebc0498efcfac", func := "loop.example/switchpuzzles/laws.FnTileMove", spec := "fnTileMove", plainKeys := false, apart := false, narrowed := true }
def FnTileMoveUptoSaid : Prop := fnTileMoveUptoRow.holds Try.pinned (OpenSpec.upto fnTileMoveSpec)

/-- 'laws.FnTilesRun', WHERE WHAT IT READS IS OF BULK AT MOST 1048576: true; the input reads as it did. -/
def fnTilesRunUptoRow : OpenClaim := { program := "ytncebcgiljkbnaa", sum := "8bbb8d79b795062b28bb11fe045b8bbf8d416ca31ac5aa428bfebc0498efcfac", func := "loop.example/switchpuzzles/laws.FnTilesRun", spec := "fnTilesRun", plainKeys := false, apart := false, narrowed := true }
def FnTilesRunUptoSaid : Prop := fnTilesRunUptoRow.holds Try.pinned (OpenSpec.upto fnTilesRunSpec)

/-- 'laws.FnBoardMay', WHERE WHAT IT READS IS OF BULK AT MOST 1048576: true; the input reads as it did. -/
def fnBoardMayUptoRow : OpenClaim := { program := "ytncebcgiljkbnaa", sum := "8bbb8d79b795062b28bb11fe045b8bbf8d416ca31ac5aa428bfebc0498efcfac", func := "loop.example/switchpuzzles/laws.FnBoardMay", spec := "fnBoardMay", plainKeys := false, apart := false, narrowed := true }
def FnBoardMayUptoSaid : Prop := fnBoardMayUptoRow.holds Try.pinned (OpenSpec.upto fnBoardMaySpec)

/-- 'laws.FnTilesFar', WHERE WHAT IT READS IS OF BULK AT MOST 1048576: true; the input reads as it did. -/
def fnTilesFarUptoRow : OpenClaim := { program := "ytncebcgiljkbnaa", sum := "8bbb8d79b795062b28bb11fe045b8bbf8d416ca31ac5aa428bfebc0498efcfac", func := "loop.example/switchpuzzles/laws.FnTilesFar", spec := "fnTilesFar", plainKeys := false, apart := false, narrowed := true }
def FnTilesFarUptoSaid : Prop := fnTilesFarUptoRow.holds Try.pinned (OpenSpec.upto fnTilesFarSpec)

end Rows
end Go.Proofs.Ytncebcgiljkbnaa

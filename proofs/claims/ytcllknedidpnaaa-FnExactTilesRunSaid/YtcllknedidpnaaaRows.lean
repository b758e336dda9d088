/-
  No cell of these rows narrows 'for every input' (looked for: loops, veiled, ifaces, maps, wideKeys, modest, calm, conditions, laid).
  DERIVED. THE GIVEN ROWS OF THIS SEAT. 4 by the template 'for every input the law returns true; each argument reads behind the call as it read before'; 0 by the template 'total and deterministic' (their statements: YtcllknedidpnaaaTotals.lean).
  GIVEN WITH THE SEED: the statements are not yours to turn. If you find one false, say at which input.
  Laid BY PROGRAM, IN A SANDBOX (cutbox-rows.mjs): the forced cells as the released guide's own fill.sh prints them over the translation a8deffccff87ed39… (all of the seat's roots in one cut). By AI agents, Wed Nov 11 2026. No macro, syntax, notation, axiom, sorry.
-/
import Derived.Test.YtcllknedidpnaaaChecked
import GoSem.Claim
import GoSem.ClaimJoined
import GoSem.ClaimMapViews
import Derived.JoinedTies
import Derived.KernelRfl
namespace Go.Proofs.Ytcllknedidpnaaa
/- THE CELL 'sum', in the pinned program and in every row, IS THE sha256 OF THE DUMP (.gsa) THAT YtcllknedidpnaaaProg.lean LOADS. Nothing in Lean hashes anything: it is a label: what it is worth is what the hold of that sum in a sandbox is worth. -/
noncomputable def Try.pinned : Pinned := { name := "ytcllknedidpnaaa", sum := "a8deffccff87ed399d8cae55b0c2b5c304998abd4ffec2d000c0999e4bc10d0a", checked := Try.checked }
namespace Rows
def none {H : Type} : Left H := { results := [], args := [] }

/-- 'laws.FnExactTileMove': WHATEVER THE INPUT: true; the input reads as it did. -/
def fnExactTileMoveSpec : ChangeSpec := { name := "fnExactTileMove", fn := fun _ => fun
  | [d1, d2] => { results := [.lit (.bool true)], args := [d1, d2] }
  | _ => none }
def fnExactTileMoveRow : OpenClaim := { program := "ytcllknedidpnaaa", sum := "a8deffccff87ed399d8cae55b0c2b5c304998abd4ffec2d000c0999e4bc10d0a", func := "loop.example/switchpuzzles/laws.FnExactTileMove", spec := "fnExactTileMove", apart := false }
def FnExactTileMoveSaid : Prop := fnExactTileMoveRow.holds Try.pinned (OpenSpec.ofChange fnExactTileMoveSpec)

/-- ITS FALSE NEIGHBOUR: 'it returns false'. Refute it at one input. -/
def fnExactTileMoveWrong : ChangeSpec := { name := "fnExactTileMove", fn := fun _ => fun
  | [d1, d2] => { results := [.lit (.bool false)], args := [d1, d2] }
  | _ => none }
def FnExactTileMoveWrongFalsely : Prop := fnExactTileMoveRow.holds Try.pinned (OpenSpec.ofChange fnExactTileMoveWrong)

/-- 'laws.FnExactTilesRun': WHATEVER THE INPUT: true; the input reads as it did. -/
def fnExactTilesRunSpec : ChangeSpec := { name := "fnExactTilesRun", fn := fun _ => fun
  | [d1, d2] => { results := [.lit (.bool true)], args := [d1, d2] }
  | _ => none }
def fnExactTilesRunRow : OpenClaim := { program := "ytcllknedidpnaaa", sum := "a8deffccff87ed399d8cae55b0c2b5c304998abd4ffec2d000c0999e4bc10d0a", func := "loop.example/switchpuzzles/laws.FnExactTilesRun", spec := "fnExactTilesRun", apart := false }
def FnExactTilesRunSaid : Prop := fnExactTilesRunRow.holds Try.pinned (OpenSpec.ofChange fnExactTilesRunSpec)

/-- ITS FALSE NEIGHBOUR: 'it returns false'. Refute it at one input. -/
def fnExactTilesRunWrong : ChangeSpec := { name := "fnExactTilesRun", fn := fun _ => fun
  | [d1, d2] => { results := [.lit (.bool false)], args := [d1, d2] }
  | _ => none }
def FnExactTilesRunWrongFalsely : Prop := fnExactTilesRunRow.holds Try.pinned (OpenSpec.ofChange fnExactTilesRunWrong)

/-- 'laws.FnExactBoardText': WHATEVER THE INPUT: true; the input reads as it did. -/
def fnExactBoardTextSpec : ChangeSpec := { name := "fnExactBoardText", fn := fun _ => fun
  | [d] => { results := [.lit (.bool true)], args := [d] }
  | _ => none }
def fnExactBoardTextRow : OpenClaim := { program := "ytcllknedidpnaaa", sum := "a8deffccff87ed399d8cae55b0c2b5c304998abd4ffec2d000c0999e4bc10d0a", func := "loop.example/switchpuzzles/laws.FnExactBoardText", spec := "fnExactBoardText", inPlace := ["internal/abi.NoEscape"], recurses := true, apart := false }
def FnExactBoardTextSaid : Prop := fnExactBoardTextRow.holds Try.pinned (OpenSpec.ofChange fnExactBoardTextSpec)

/-- ITS FALSE NEIGHBOUR: 'it returns false'. Refute it at one input. -/
def fnExactBoardTextWrong : ChangeSpec := { name := "fnExactBoardText", fn := fun _ => fun
  | [d] => { results := [.lit (.bool false)], args := [d] }
  | _ => none }
def FnExactBoardTextWrongFalsely : Prop := fnExactBoardTextRow.holds Try.pinned (OpenSpec.ofChange fnExactBoardTextWrong)

/-- 'laws.FnExactReadBoard': WHATEVER THE INPUT: true; the input reads as it did. -/
def fnExactReadBoardSpec : ChangeSpec := { name := "fnExactReadBoard", fn := fun _ => fun
  | [d] => { results := [.lit (.bool true)], args := [d] }
  | _ => none }
def fnExactReadBoardRow : OpenClaim := { program := "ytcllknedidpnaaa", sum := "a8deffccff87ed399d8cae55b0c2b5c304998abd4ffec2d000c0999e4bc10d0a", func := "loop.example/switchpuzzles/laws.FnExactReadBoard", spec := "fnExactReadBoard", inPlace := ["internal/abi.NoEscape"], recurses := true, apart := false }
def FnExactReadBoardSaid : Prop := fnExactReadBoardRow.holds Try.pinned (OpenSpec.ofChange fnExactReadBoardSpec)

/-- ITS FALSE NEIGHBOUR: 'it returns false'. Refute it at one input. -/
def fnExactReadBoardWrong : ChangeSpec := { name := "fnExactReadBoard", fn := fun _ => fun
  | [d] => { results := [.lit (.bool false)], args := [d] }
  | _ => none }
def FnExactReadBoardWrongFalsely : Prop := fnExactReadBoardRow.holds Try.pinned (OpenSpec.ofChange fnExactReadBoardWrong)

/- THE SECOND FORM. 'bulk': how many values and letters a reading holds, each counted each time it is reached (what is shared counts as often as it is met; a slice's spare places count too). A statement '..UptoSaid' is the law's where the arguments, and the package variables that the reading takes, are together of bulk at most 1048576: NARROWER than '..Said'. Prove '..Said' where nothing that the law and all that it calls make is longer than what came in: it says more and counts as full. Else prove '..UptoSaid'. A law counts once. -/
mutual
def uptoBulk {H : Type} : DataW H → Nat
  | .lit (.string bytes) => bytes.length + 1
  | .lit _ => 1
  | .nil => 1
  | .ptr d => uptoBulk d + 1
  | .slice elems spare => uptoBulkAll elems + uptoBulkAll spare + 1
  | .agg parts => uptoBulkAll parts + 1
  | .iface _ d => uptoBulk d + 1
  | .map entries => uptoBulkEntries entries + 1
  | .held _ => 1
def uptoBulkAll {H : Type} : List (DataW H) → Nat
  | [] => 0
  | d :: r => uptoBulk d + uptoBulkAll r
def uptoBulkEntries {H : Type} : List (Lit × DataW H) → Nat
  | [] => 0
  | x :: r => uptoBulkEntry x + uptoBulkEntries r
def uptoBulkEntry {H : Type} : Lit × DataW H → Nat
  | (.string bytes, d) => bytes.length + uptoBulk d + 1
  | (_, d) => uptoBulk d + 1
 end
def uptoSmall : (H : Type) → List (DataW H) → Bool := fun _ ds => decide (uptoBulkAll ds ≤ 1048576)
def OpenSpec.upto (s : _root_.Go.ChangeSpec) : _root_.Go.OpenSpec := { _root_.Go.OpenSpec.ofChange s with cond := some uptoSmall }

/-- 'laws.FnExactTileMove', WHERE WHAT IT READS IS OF BULK AT MOST 1048576: true; the input reads as it did. -/
def fnExactTileMoveUptoRow : OpenClaim := { program := "ytcllknedidpnaaa", sum := "a8deffccff87ed399d8cae55b0c2b5c304998abd4ffec2d000c0999e4bc10d0a", func := "loop.example/switchpuzzles/laws.FnExactTileMove", spec := "fnExactTileMove", apart := false, narrowed := true }
def FnExactTileMoveUptoSaid : Prop := fnExactTileMoveUptoRow.holds Try.pinned (OpenSpec.upto fnExactTileMoveSpec)

/-- 'laws.FnExactTilesRun', WHERE WHAT IT READS IS OF BULK AT MOST 1048576: true; the input reads as it did. -/
def fnExactTilesRunUptoRow : OpenClaim := { program := "ytcllknedidpnaaa", sum := "a8deffccff87ed399d8cae55b0c2b5c304998abd4ffec2d000c0999e4bc10d0a", func := "loop.example/switchpuzzles/laws.FnExactTilesRun", spec := "fnExactTilesRun", apart := false, narrowed := true }
def FnExactTilesRunUptoSaid : Prop := fnExactTilesRunUptoRow.holds Try.pinned (OpenSpec.upto fnExactTilesRunSpec)

/-- 'laws.FnExactBoardText', WHERE WHAT IT READS IS OF BULK AT MOST 1048576: true; the input reads as it did. -/
def fnExactBoardTextUptoRow : OpenClaim := { program := "ytcllknedidpnaaa", sum := "a8deffccff87ed399d8cae55b0c2b5c304998abd4ffec2d000c0999e4bc10d0a", func := "loop.example/switchpuzzles/laws.FnExactBoardText", spec := "fnExactBoardText", inPlace := ["internal/abi.NoEscape"], recurses := true, apart := false, narrowed := true }
def FnExactBoardTextUptoSaid : Prop := fnExactBoardTextUptoRow.holds Try.pinned (OpenSpec.upto fnExactBoardTextSpec)

/-- 'laws.FnExactReadBoard', WHERE WHAT IT READS IS OF BULK AT MOST 1048576: true; the input reads as it did. -/
def fnExactReadBoardUptoRow : OpenClaim := { program := "ytcllknedidpnaaa", sum := "a8deffccff87ed399d8cae55b0c2b5c304998abd4ffec2d000c0999e4bc10d0a", func := "loop.example/switchpuzzles/laws.FnExactReadBoard", spec := "fnExactReadBoard", inPlace := ["internal/abi.NoEscape"], recurses := true, apart := false, narrowed := true }
def FnExactReadBoardUptoSaid : Prop := fnExactReadBoardUptoRow.holds Try.pinned (OpenSpec.upto fnExactReadBoardSpec)

end Rows
end Go.Proofs.Ytcllknedidpnaaa

/-
  No cell of these rows narrows 'for every input' (looked for: loops, veiled, ifaces, maps, wideKeys, modest, calm, conditions, laid).
  DERIVED. THE GIVEN ROWS OF THIS SEAT. 6 by the template 'for every input the law returns true; each argument reads behind the call as it read before'; 0 by the template 'total and deterministic' (their statements: YtfpjhnekodlnkaaTotals.lean).
  GIVEN WITH THE SEED: the statements are not yours to turn. If you find one false, say at which input.
  Laid BY PROGRAM, IN A SANDBOX (cutbox-rows.mjs): the forced cells as the released guide's own fill.sh prints them over the translation e7117ad78cdaa6cd… (all of the seat's roots in one cut). By AI agents, Wed Nov 11 2026. No macro, syntax, notation, axiom, sorry.
-/
import Derived.Test.YtfpjhnekodlnkaaChecked
import GoSem.Claim
import GoSem.ClaimJoined
import GoSem.ClaimMapViews
import Derived.JoinedTies
import Derived.KernelRfl
namespace Go.Proofs.Ytfpjhnekodlnkaa
/- THE CELL 'sum', in the pinned program and in every row, IS THE sha256 OF THE DUMP (.gsa) THAT YtfpjhnekodlnkaaProg.lean LOADS. Nothing in Lean hashes anything: it is a label: what it is worth is what the hold of that sum in a sandbox is worth. -/
noncomputable def Try.pinned : Pinned := { name := "ytfpjhnekodlnkaa", sum := "e7117ad78cdaa6cd23413369b1bd84d91ea86c8840c6b3aef818ce44f46339bf", checked := Try.checked }
namespace Rows
def none {H : Type} : Left H := { results := [], args := [] }

/-- 'laws.FnExactFreePlace': WHATEVER THE INPUT: true; the input reads as it did. -/
def fnExactFreePlaceSpec : ChangeSpec := { name := "fnExactFreePlace", fn := fun _ => fun
  | [d] => { results := [.lit (.bool true)], args := [d] }
  | _ => none }
def fnExactFreePlaceRow : OpenClaim := { program := "ytfpjhnekodlnkaa", sum := "e7117ad78cdaa6cd23413369b1bd84d91ea86c8840c6b3aef818ce44f46339bf", func := "loop.example/switchpuzzles/laws.FnExactFreePlace", spec := "fnExactFreePlace", apart := false }
def FnExactFreePlaceSaid : Prop := fnExactFreePlaceRow.holds Try.pinned (OpenSpec.ofChange fnExactFreePlaceSpec)

/-- ITS FALSE NEIGHBOUR: 'it returns false'. Refute it at one input. -/
def fnExactFreePlaceWrong : ChangeSpec := { name := "fnExactFreePlace", fn := fun _ => fun
  | [d] => { results := [.lit (.bool false)], args := [d] }
  | _ => none }
def FnExactFreePlaceWrongFalsely : Prop := fnExactFreePlaceRow.holds Try.pinned (OpenSpec.ofChange fnExactFreePlaceWrong)

/-- 'laws.FnExactBoardOdd': WHATEVER THE INPUT: true; the input reads as it did. -/
def fnExactBoardOddSpec : ChangeSpec := { name := "fnExactBoardOdd", fn := fun _ => fun
  | [d] => { results := [.lit (.bool true)], args := [d] }
  | _ => none }
def fnExactBoardOddRow : OpenClaim := { program := "ytfpjhnekodlnkaa", sum := "e7117ad78cdaa6cd23413369b1bd84d91ea86c8840c6b3aef818ce44f46339bf", func := "loop.example/switchpuzzles/laws.FnExactBoardOdd", spec := "fnExactBoardOdd", apart := false }
def FnExactBoardOddSaid : Prop := fnExactBoardOddRow.holds Try.pinned (OpenSpec.ofChange fnExactBoardOddSpec)

/-- ITS FALSE NEIGHBOUR: 'it returns false'. Refute it at one input. -/
def fnExactBoardOddWrong : ChangeSpec := { name := "fnExactBoardOdd", fn := fun _ => fun
  | [d] => { results := [.lit (.bool false)], args := [d] }
  | _ => none }
def FnExactBoardOddWrongFalsely : Prop := fnExactBoardOddRow.holds Try.pinned (OpenSpec.ofChange fnExactBoardOddWrong)

/-- 'laws.FnExactTilesFar': WHATEVER THE INPUT: true; the input reads as it did. -/
def fnExactTilesFarSpec : ChangeSpec := { name := "fnExactTilesFar", fn := fun _ => fun
  | [d] => { results := [.lit (.bool true)], args := [d] }
  | _ => none }
def fnExactTilesFarRow : OpenClaim := { program := "ytfpjhnekodlnkaa", sum := "e7117ad78cdaa6cd23413369b1bd84d91ea86c8840c6b3aef818ce44f46339bf", func := "loop.example/switchpuzzles/laws.FnExactTilesFar", spec := "fnExactTilesFar", apart := false }
def FnExactTilesFarSaid : Prop := fnExactTilesFarRow.holds Try.pinned (OpenSpec.ofChange fnExactTilesFarSpec)

/-- ITS FALSE NEIGHBOUR: 'it returns false'. Refute it at one input. -/
def fnExactTilesFarWrong : ChangeSpec := { name := "fnExactTilesFar", fn := fun _ => fun
  | [d] => { results := [.lit (.bool false)], args := [d] }
  | _ => none }
def FnExactTilesFarWrongFalsely : Prop := fnExactTilesFarRow.holds Try.pinned (OpenSpec.ofChange fnExactTilesFarWrong)

/-- 'laws.FnExactFreeFar': WHATEVER THE INPUT: true; the input reads as it did. -/
def fnExactFreeFarSpec : ChangeSpec := { name := "fnExactFreeFar", fn := fun _ => fun
  | [d] => { results := [.lit (.bool true)], args := [d] }
  | _ => none }
def fnExactFreeFarRow : OpenClaim := { program := "ytfpjhnekodlnkaa", sum := "e7117ad78cdaa6cd23413369b1bd84d91ea86c8840c6b3aef818ce44f46339bf", func := "loop.example/switchpuzzles/laws.FnExactFreeFar", spec := "fnExactFreeFar", apart := false }
def FnExactFreeFarSaid : Prop := fnExactFreeFarRow.holds Try.pinned (OpenSpec.ofChange fnExactFreeFarSpec)

/-- ITS FALSE NEIGHBOUR: 'it returns false'. Refute it at one input. -/
def fnExactFreeFarWrong : ChangeSpec := { name := "fnExactFreeFar", fn := fun _ => fun
  | [d] => { results := [.lit (.bool false)], args := [d] }
  | _ => none }
def FnExactFreeFarWrongFalsely : Prop := fnExactFreeFarRow.holds Try.pinned (OpenSpec.ofChange fnExactFreeFarWrong)

/-- 'laws.FnExactTilesMay': WHATEVER THE INPUT: true; the input reads as it did. -/
def fnExactTilesMaySpec : ChangeSpec := { name := "fnExactTilesMay", fn := fun _ => fun
  | [d] => { results := [.lit (.bool true)], args := [d] }
  | _ => none }
def fnExactTilesMayRow : OpenClaim := { program := "ytfpjhnekodlnkaa", sum := "e7117ad78cdaa6cd23413369b1bd84d91ea86c8840c6b3aef818ce44f46339bf", func := "loop.example/switchpuzzles/laws.FnExactTilesMay", spec := "fnExactTilesMay", apart := false }
def FnExactTilesMaySaid : Prop := fnExactTilesMayRow.holds Try.pinned (OpenSpec.ofChange fnExactTilesMaySpec)

/-- ITS FALSE NEIGHBOUR: 'it returns false'. Refute it at one input. -/
def fnExactTilesMayWrong : ChangeSpec := { name := "fnExactTilesMay", fn := fun _ => fun
  | [d] => { results := [.lit (.bool false)], args := [d] }
  | _ => none }
def FnExactTilesMayWrongFalsely : Prop := fnExactTilesMayRow.holds Try.pinned (OpenSpec.ofChange fnExactTilesMayWrong)

/-- 'laws.FnExactBoardMay': WHATEVER THE INPUT: true; the input reads as it did. -/
def fnExactBoardMaySpec : ChangeSpec := { name := "fnExactBoardMay", fn := fun _ => fun
  | [d] => { results := [.lit (.bool true)], args := [d] }
  | _ => none }
def fnExactBoardMayRow : OpenClaim := { program := "ytfpjhnekodlnkaa", sum := "e7117ad78cdaa6cd23413369b1bd84d91ea86c8840c6b3aef818ce44f46339bf", func := "loop.example/switchpuzzles/laws.FnExactBoardMay", spec := "fnExactBoardMay", apart := false }
def FnExactBoardMaySaid : Prop := fnExactBoardMayRow.holds Try.pinned (OpenSpec.ofChange fnExactBoardMaySpec)

/-- ITS FALSE NEIGHBOUR: 'it returns false'. Refute it at one input. -/
def fnExactBoardMayWrong : ChangeSpec := { name := "fnExactBoardMay", fn := fun _ => fun
  | [d] => { results := [.lit (.bool false)], args := [d] }
  | _ => none }
def FnExactBoardMayWrongFalsely : Prop := fnExactBoardMayRow.holds Try.pinned (OpenSpec.ofChange fnExactBoardMayWrong)

/- THE SECOND FORM. 'bulk': how many values and letters a reading holds, each counted each time it is reached (what is shared counts as often as it is met; a slice's spare places count too). A statement '..UptoSaid' is the law's where the arguments, and the package variables that the reading takes, are together of bulk at most 1048576: NARROWER than '..Said'. Prove '..Said' where nothing that the law and all that it calls make is longer than what came in: it says more and counts as full. Else prove '..UptoSaid'. A law counts once. -/
mutual
def uptoBulk {H : Type} : DataW H → Nat
  | .lit (.string bytes) => bytes.length + 1
  | .lit _ => 1
  | .nil => 1
  | .ptr d => uptoBulk d + 1
  | .slice elems spare => uptoBulkAll elems + uptoBulkAll spare + 1
  | .agg parts => uptoBulkAll parts + 1
  | .iface _ d => uptoBulk d + 1
  | .map entries => uptoBulkEntries entries + 1
  | .held _ => 1
def uptoBulkAll {H : Type} : List (DataW H) → Nat
  | [] => 0
  | d :: r => uptoBulk d + uptoBulkAll r
def uptoBulkEntries {H : Type} : List (Lit × DataW H) → Nat
  | [] => 0
  | x :: r => uptoBulkEntry x + uptoBulkEntries r
def uptoBulkEntry {H : Type} : Lit × DataW H → Nat
  | (.string bytes, d) => bytes.length + uptoBulk d + 1
  | (_, d) => uptoBulk d + 1
 end
def uptoSmall : (H : Type) → List (DataW H) → Bool := fun _ ds => decide (uptoBulkAll ds ≤ 1048576)
def OpenSpec.upto (s : _root_.Go.ChangeSpec) : _root_.Go.OpenSpec := { _root_.Go.OpenSpec.ofChange s with cond := some uptoSmall }

/-- 'laws.FnExactFreePlace', WHERE WHAT IT READS IS OF BULK AT MOST 1048576: true; the input reads as it did. -/
def fnExactFreePlaceUptoRow : OpenClaim := { program := "ytfpjhnekodlnkaa", sum := "e7117ad78cdaa6cd23413369b1bd84d91ea86c8840c6b3aef818ce44f46339bf", func := "loop.example/switchpuzzles/laws.FnExactFreePlace", spec := "fnExactFreePlace", apart := false, narrowed := true }
def FnExactFreePlaceUptoSaid : Prop := fnExactFreePlaceUptoRow.holds Try.pinned (OpenSpec.upto fnExactFreePlaceSpec)

/-- 'laws.FnExactBoardOdd', WHERE WHAT IT READS IS OF BULK AT MOST 1048576: true; the input reads as it did. -/
def fnExactBoardOddUptoRow : OpenClaim := { program := "ytfpjhnekodlnkaa", sum := "e7117ad78cdaa6cd23413369b1bd84d91ea86c8840c6b3aef818ce44f46339bf", func := "loop.example/switchpuzzles/laws.FnExactBoardOdd", spec := "fnExactBoardOdd", apart := false, narrowed := true }
def FnExactBoardOddUptoSaid : Prop := fnExactBoardOddUptoRow.holds Try.pinned (OpenSpec.upto fnExactBoardOddSpec)

/-- 'laws.FnExactTilesFar', WHERE WHAT IT READS IS OF BULK AT MOST 1048576: true; the input reads as it did. -/
def fnExactTilesFarUptoRow : OpenClaim := { program := "ytfpjhnekodlnkaa", sum := "e7117ad78cdaa6cd23413369b1bd84d91ea86c8840c6b3aef818ce44f46339bf", func := "loop.example/switchpuzzles/laws.FnExactTilesFar", spec := "fnExactTilesFar", apart := false, narrowed := true }
def FnExactTilesFarUptoSaid : Prop := fnExactTilesFarUptoRow.holds Try.pinned (OpenSpec.upto fnExactTilesFarSpec)

/-- 'laws.FnExactFreeFar', WHERE WHAT IT READS IS OF BULK AT MOST 1048576: true; the input reads as it did. -/
def fnExactFreeFarUptoRow : OpenClaim := { program := "ytfpjhnekodlnkaa", sum := "e7117ad78cdaa6cd23413369b1bd84d91ea86c8840c6b3aef818ce44f46339bf", func := "loop.example/switchpuzzles/laws.FnExactFreeFar", spec := "fnExactFreeFar", apart := false, narrowed := true }
def FnExactFreeFarUptoSaid : Prop := fnExactFreeFarUptoRow.holds Try.pinned (OpenSpec.upto fnExactFreeFarSpec)

/-- 'laws.FnExactTilesMay', WHERE WHAT IT READS IS OF BULK AT MOST 1048576: true; the input reads as it did. -/
def fnExactTilesMayUptoRow : OpenClaim := { program := "ytfpjhnekodlnkaa", sum := "e7117ad78cdaa6cd23413369b1bd84d91ea86c8840c6b3aef818ce44f46339bf", func := "loop.example/switchpuzzles/laws.FnExactTilesMay", spec := "fnExactTilesMay", apart := false, narrowed := true }
def FnExactTilesMayUptoSaid : Prop := fnExactTilesMayUptoRow.holds Try.pinned (OpenSpec.upto fnExactTilesMaySpec)

/-- 'laws.FnExactBoardMay', WHERE WHAT IT READS IS OF BULK AT MOST 1048576: true; the input reads as it did. -/
def fnExactBoardMayUptoRow : OpenClaim := { program := "ytfpjhnekodlnkaa", sum := "e7117ad78cdaa6cd23413369b1bd84d91ea86c8840c6b3aef818ce44f46339bf", func := "loop.example/switchpuzzles/laws.FnExactBoardMay", spec := "fnExactBoardMay", apart := false, narrowed := true }
def FnExactBoardMayUptoSaid : Prop := fnExactBoardMayUptoRow.holds Try.pinned (OpenSpec.upto fnExactBoardMaySpec)

end Rows
end Go.Proofs.Ytfpjhnekodlnkaa

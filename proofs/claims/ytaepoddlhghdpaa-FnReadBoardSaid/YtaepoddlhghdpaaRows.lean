/-
  No cell of these rows narrows 'for every input' (looked for: loops, veiled, ifaces, maps, wideKeys, modest, calm, conditions, laid).
  DERIVED. THE GIVEN ROWS OF THIS SEAT. 4 by the template 'for every input the law returns true; each argument reads behind the call as it read before'; 0 by the template 'total and deterministic' (their statements: YtaepoddlhghdpaaTotals.lean).
  GIVEN WITH THE SEED: the statements are not yours to turn. If you find one false, say at which input.
  Laid BY PROGRAM, IN A SANDBOX (cutbox-rows.mjs): the forced cells as the released guide's own fill.sh prints them over the translation 576c97327df46468… (all of the seat's roots in one cut). By AI agents, Wed Nov 11 2026. No macro, syntax, notation, axiom, sorry.
-/
import Derived.Test.YtaepoddlhghdpaaChecked
import GoSem.Claim
import GoSem.ClaimJoined
import GoSem.ClaimMapViews
import Derived.JoinedTies
import Derived.KernelRfl
namespace Go.Proofs.Ytaepoddlhghdpaa
/- THE CELL 'sum', in the pinned program and in every row, IS THE sha256 OF THE DUMP (.gsa) THAT YtaepoddlhghdpaaProg.lean LOADS. Nothing in Lean hashes anything: it is a label: what it is worth is what the hold of that sum in a sandbox is worth. -/
noncomputable def Try.pinned : Pinned := { name := "ytaepoddlhghdpaa", sum := "576c97327df464687aea35f4facf20de08f6ec264d121d4044739f9b9610acfd", checked := Try.checked }
namespace Rows
def none {H : Type} : Left H := { results := [], args := [] }

/-- 'laws.FnExactBoardText': WHATEVER THE INPUT: true; the input reads as it did. -/
def fnExactBoardTextSpec : ChangeSpec := { name := "fnExactBoardText", fn := fun _ => fun
  | [d] => { results := [.lit (.bool true)], args := [d] }
  | _ => none }
def fnExactBoardTextRow : OpenClaim := { program := "ytaepoddlhghdpaa", sum := "576c97327df464687aea35f4facf20de08f6ec264d121d4044739f9b9610acfd", func := "loop.example/switchpuzzles/laws.FnExactBoardText", spec := "fnExactBoardText", inPlace := ["internal/abi.NoEscape"], recurses := true, apart := false }
def FnExactBoardTextSaid : Prop := fnExactBoardTextRow.holds Try.pinned (OpenSpec.ofChange fnExactBoardTextSpec)

/-- ITS FALSE NEIGHBOUR: 'it returns false'. Refute it at one input. -/
def fnExactBoardTextWrong : ChangeSpec := { name := "fnExactBoardText", fn := fun _ => fun
  | [d] => { results := [.lit (.bool false)], args := [d] }
  | _ => none }
def FnExactBoardTextWrongFalsely : Prop := fnExactBoardTextRow.holds Try.pinned (OpenSpec.ofChange fnExactBoardTextWrong)

/-- 'laws.FnExactReadBoard': WHATEVER THE INPUT: true; the input reads as it did. -/
def fnExactReadBoardSpec : ChangeSpec := { name := "fnExactReadBoard", fn := fun _ => fun
  | [d] => { results := [.lit (.bool true)], args := [d] }
  | _ => none }
def fnExactReadBoardRow : OpenClaim := { program := "ytaepoddlhghdpaa", sum := "576c97327df464687aea35f4facf20de08f6ec264d121d4044739f9b9610acfd", func := "loop.example/switchpuzzles/laws.FnExactReadBoard", spec := "fnExactReadBoard", inPlace := ["internal/abi.NoEscape"], recurses := true, apart := false }
def FnExactReadBoardSaid : Prop := fnExactReadBoardRow.holds Try.pinned (OpenSpec.ofChange fnExactReadBoardSpec)

/-- ITS FALSE NEIGHBOUR: 'it returns false'. Refute it at one input. -/
def fnExactReadBoardWrong : ChangeSpec := { name := "fnExactReadBoard", fn := fun _ => fun
  | [d] => { results := [.lit (.bool false)], args := [d] }
  | _ => none }
def FnExactReadBoardWrongFalsely : Prop := fnExactReadBoardRow.holds Try.pinned (OpenSpec.ofChange fnExactReadBoardWrong)

/-- 'laws.FnBoardText': WHATEVER THE INPUT: true; the input reads as it did. -/
def fnBoardTextSpec : ChangeSpec := { name := "fnBoardText", fn := fun _ => fun
  | [d] => { results := [.lit (.bool true)], args := [d] }
  | _ => none }
def fnBoardTextRow : OpenClaim := { program := "ytaepoddlhghdpaa", sum := "576c97327df464687aea35f4facf20de08f6ec264d121d4044739f9b9610acfd", func := "loop.example/switchpuzzles/laws.FnBoardText", spec := "fnBoardText", inPlace := ["internal/abi.NoEscape"], recurses := true, apart := false }
def FnBoardTextSaid : Prop := fnBoardTextRow.holds Try.pinned (OpenSpec.ofChange fnBoardTextSpec)

/-- ITS FALSE NEIGHBOUR: 'it returns false'. Refute it at one input. -/
def fnBoardTextWrong : ChangeSpec := { name := "fnBoardText", fn := fun _ => fun
  | [d] => { results := [.lit (.bool false)], args := [d] }
  | _ => none }
def FnBoardTextWrongFalsely : Prop := fnBoardTextRow.holds Try.pinned (OpenSpec.ofChange fnBoardTextWrong)

/-- 'laws.FnReadBoard': WHATEVER THE INPUT: true; the input reads as it did. -/
def fnReadBoardSpec : ChangeSpec := { name := "fnReadBoard", fn := fun _ => fun
  | [d] => { results := [.lit (.bool true)], args := [d] }
  | _ => none }
def fnReadBoardRow : OpenClaim := { program := "ytaepoddlhghdpaa", sum := "576c97327df464687aea35f4facf20de08f6ec264d121d4044739f9b9610acfd", func := "loop.example/switchpuzzles/laws.FnReadBoard", spec := "fnReadBoard", inPlace := ["internal/abi.NoEscape"], recurses := true, apart := false }
def FnReadBoardSaid : Prop := fnReadBoardRow.holds Try.pinned (OpenSpec.ofChange fnReadBoardSpec)

/-- ITS FALSE NEIGHBOUR: 'it returns false'. Refute it at one input. -/
def fnReadBoardWrong : ChangeSpec := { name := "fnReadBoard", fn := fun _ => fun
  | [d] => { results := [.lit (.bool false)], args := [d] }
  | _ => none }
def FnReadBoardWrongFalsely : Prop := fnReadBoardRow.holds Try.pinned (OpenSpec.ofChange fnReadBoardWrong)

/- THE SECOND FORM. 'bulk': how many values and letters a reading holds, each counted each time it is reached (what is shared counts as often as it is met; a slice's spare places count too). A statement '..UptoSaid' is the law's where the arguments, and the package variables that the reading takes, are together of bulk at most 1048576: NARROWER than '..Said'. Prove '..Said' where nothing that the law and all that it calls make is longer than what came in: it says more and counts as full. Else prove '..UptoSaid'. A law counts once. -/
mutual
def uptoBulk {H : Type} : DataW H → Nat
  | .lit (.string bytes) => bytes.length + 1
  | .lit _ => 1
  | .nil => 1
  | .ptr d => uptoBulk d + 1
  | .slice elems spare => uptoBulkAll elems + uptoBulkAll spare + 1
  | .agg parts => uptoBulkAll parts + 1
  | .iface _ d => uptoBulk d + 1
  | .map entries => uptoBulkEntries entries + 1
  | .held _ => 1
def uptoBulkAll {H : Type} : List (DataW H) → Nat
  | [] => 0
  | d :: r => uptoBulk d + uptoBulkAll r
def uptoBulkEntries {H : Type} : List (Lit × DataW H) → Nat
  | [] => 0
  | x :: r => uptoBulkEntry x + uptoBulkEntries r
def uptoBulkEntry {H : Type} : Lit × DataW H → Nat
  | (.string bytes, d) => bytes.length + uptoBulk d + 1
  | (_, d) => uptoBulk d + 1
 end
def uptoSmall : (H : Type) → List (DataW H) → Bool := fun _ ds => decide (uptoBulkAll ds ≤ 1048576)
def OpenSpec.upto (s : _root_.Go.ChangeSpec) : _root_.Go.OpenSpec := { _root_.Go.OpenSpec.ofChange s with cond := some uptoSmall }

/-- 'laws.FnExactBoardText', WHERE WHAT IT READS IS OF BULK AT MOST 1048576: true; the input reads as it did. -/
def fnExactBoardTextUptoRow : OpenClaim := { program := "ytaepoddlhghdpaa", sum := "576c97327df464687aea35f4facf20de08f6ec264d121d4044739f9b9610acfd", func := "loop.example/switchpuzzles/laws.FnExactBoardText", spec := "fnExactBoardText", inPlace := ["internal/abi.NoEscape"], recurses := true, apart := false, narrowed := true }
def FnExactBoardTextUptoSaid : Prop := fnExactBoardTextUptoRow.holds Try.pinned (OpenSpec.upto fnExactBoardTextSpec)

/-- 'laws.FnExactReadBoard', WHERE WHAT IT READS IS OF BULK AT MOST 1048576: true; the input reads as it did. -/
def fnExactReadBoardUptoRow : OpenClaim := { program := "ytaepoddlhghdpaa", sum := "576c97327df464687aea35f4facf20de08f6ec264d121d4044739f9b9610acfd", func := "loop.example/switchpuzzles/laws.FnExactReadBoard", spec := "fnExactReadBoard", inPlace := ["internal/abi.NoEscape"], recurses := true, apart := false, narrowed := true }
def FnExactReadBoardUptoSaid : Prop := fnExactReadBoardUptoRow.holds Try.pinned (OpenSpec.upto fnExactReadBoardSpec)

/-- 'laws.FnBoardText', WHERE WHAT IT READS IS OF BULK AT MOST 1048576: true; the input reads as it did. -/
def fnBoardTextUptoRow : OpenClaim := { program := "ytaepoddlhghdpaa", sum := "576c97327df464687aea35f4facf20de08f6ec264d121d4044739f9b9610acfd", func := "loop.example/switchpuzzles/laws.FnBoardText", spec := "fnBoardText", inPlace := ["internal/abi.NoEscape"], recurses := true, apart := false, narrowed := true }
def FnBoardTextUptoSaid : Prop := fnBoardTextUptoRow.holds Try.pinned (OpenSpec.upto fnBoardTextSpec)

/-- 'laws.FnReadBoard', WHERE WHAT IT READS IS OF BULK AT MOST 1048576: true; the input reads as it did. -/
def fnReadBoardUptoRow : OpenClaim := { program := "ytaepoddlhghdpaa", sum := "576c97327df464687aea35f4facf20de08f6ec264d121d4044739f9b9610acfd", func := "loop.example/switchpuzzles/laws.FnReadBoard", spec := "fnReadBoard", inPlace := ["internal/abi.NoEscape"], recurses := true, apart := false, narrowed := true }
def FnReadBoardUptoSaid : Prop := fnReadBoardUptoRow.holds Try.pinned (OpenSpec.upto fnReadBoardSpec)

end Rows
end Go.Proofs.Ytaepoddlhghdpaa

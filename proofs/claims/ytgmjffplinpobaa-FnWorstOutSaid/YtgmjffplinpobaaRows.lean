/-
  No cell of these rows narrows 'for every input' (looked for: loops, veiled, ifaces, maps, wideKeys, modest, calm, conditions, laid).
  DERIVED. THE GIVEN ROWS OF THIS SEAT. 4 by the template 'for every input the law returns true; each argument reads behind the call as it read before'; 0 by the template 'total and deterministic' (their statements: YtgmjffplinpobaaTotals.lean).
  GIVEN WITH THE SEED: the statements are not yours to turn. If you find one false, say at which input.
  Laid BY PROGRAM, IN A SANDBOX (cutbox-rows.mjs): the forced cells as the released guide's own fill.sh prints them over the translation a90d82e7a52c8022… (all of the seat's roots in one cut). By AI agents, Wed Nov 11 2026. No macro, syntax, notation, axiom, sorry.
-/
import Derived.Test.YtgmjffplinpobaaChecked
import GoSem.Claim
import GoSem.ClaimJoined
import GoSem.ClaimMapViews
import Derived.JoinedTies
import Derived.KernelRfl
namespace Go.Proofs.Ytgmjffplinpobaa
/- THE CELL 'sum', in the pinned program and in every row, IS THE sha256 OF THE DUMP (.gsa) THAT YtgmjffplinpobaaProg.lean LOADS. Nothing in Lean hashes anything: it is a label: what it is worth is what the hold of that sum in a sandbox is worth. -/
noncomputable def Try.pinned : Pinned := { name := "ytgmjffplinpobaa", sum := "a90d82e7a52c8022011d9fc7590379fec526e9eb185f90b0ca7b30b7349a410c", checked := Try.checked }
namespace Rows
def none {H : Type} : Left H := { results := [], args := [] }

/-- 'laws.FnOutMay': WHATEVER THE INPUT: true; the input reads as it did. -/
def fnOutMaySpec : ChangeSpec := { name := "fnOutMay", fn := fun _ => fun
  | [d] => { results := [.lit (.bool true)], args := [d] }
  | _ => none }
def fnOutMayRow : OpenClaim := { program := "ytgmjffplinpobaa", sum := "a90d82e7a52c8022011d9fc7590379fec526e9eb185f90b0ca7b30b7349a410c", func := "loop.example/switchpuzzles/laws.FnOutMay", spec := "fnOutMay", apart := false }
def FnOutMaySaid : Prop := fnOutMayRow.holds Try.pinned (OpenSpec.ofChange fnOutMaySpec)

/-- ITS FALSE NEIGHBOUR: 'it returns false'. Refute it at one input. -/
def fnOutMayWrong : ChangeSpec := { name := "fnOutMay", fn := fun _ => fun
  | [d] => { results := [.lit (.bool false)], args := [d] }
  | _ => none }
def FnOutMayWrongFalsely : Prop := fnOutMayRow.holds Try.pinned (OpenSpec.ofChange fnOutMayWrong)

/-- 'laws.FnOutBy': WHATEVER THE INPUT: true; the input reads as it did. -/
def fnOutBySpec : ChangeSpec := { name := "fnOutBy", fn := fun _ => fun
  | [d] => { results := [.lit (.bool true)], args := [d] }
  | _ => none }
def fnOutByRow : OpenClaim := { program := "ytgmjffplinpobaa", sum := "a90d82e7a52c8022011d9fc7590379fec526e9eb185f90b0ca7b30b7349a410c", func := "loop.example/switchpuzzles/laws.FnOutBy", spec := "fnOutBy", apart := false }
def FnOutBySaid : Prop := fnOutByRow.holds Try.pinned (OpenSpec.ofChange fnOutBySpec)

/-- ITS FALSE NEIGHBOUR: 'it returns false'. Refute it at one input. -/
def fnOutByWrong : ChangeSpec := { name := "fnOutBy", fn := fun _ => fun
  | [d] => { results := [.lit (.bool false)], args := [d] }
  | _ => none }
def FnOutByWrongFalsely : Prop := fnOutByRow.holds Try.pinned (OpenSpec.ofChange fnOutByWrong)

/-- 'laws.FnQuietSets': WHATEVER THE INPUT: true; the input reads as it did. -/
def fnQuietSetsSpec : ChangeSpec := { name := "fnQuietSets", fn := fun _ => fun
  | [d] => { results := [.lit (.bool true)], args := [d] }
  | _ => none }
def fnQuietSetsRow : OpenClaim := { program := "ytgmjffplinpobaa", sum := "a90d82e7a52c8022011d9fc7590379fec526e9eb185f90b0ca7b30b7349a410c", func := "loop.example/switchpuzzles/laws.FnQuietSets", spec := "fnQuietSets", apart := false }
def FnQuietSetsSaid : Prop := fnQuietSetsRow.holds Try.pinned (OpenSpec.ofChange fnQuietSetsSpec)

/-- ITS FALSE NEIGHBOUR: 'it returns false'. Refute it at one input. -/
def fnQuietSetsWrong : ChangeSpec := { name := "fnQuietSets", fn := fun _ => fun
  | [d] => { results := [.lit (.bool false)], args := [d] }
  | _ => none }
def FnQuietSetsWrongFalsely : Prop := fnQuietSetsRow.holds Try.pinned (OpenSpec.ofChange fnQuietSetsWrong)

/-- 'laws.FnWorstOut': WHATEVER THE INPUT: true; the input reads as it did. -/
def fnWorstOutSpec : ChangeSpec := { name := "fnWorstOut", fn := fun _ => fun
  | [d] => { results := [.lit (.bool true)], args := [d] }
  | _ => none }
def fnWorstOutRow : OpenClaim := { program := "ytgmjffplinpobaa", sum := "a90d82e7a52c8022011d9fc7590379fec526e9eb185f90b0ca7b30b7349a410c", func := "loop.example/switchpuzzles/laws.FnWorstOut", spec := "fnWorstOut", apart := false }
def FnWorstOutSaid : Prop := fnWorstOutRow.holds Try.pinned (OpenSpec.ofChange fnWorstOutSpec)

/-- ITS FALSE NEIGHBOUR: 'it returns false'. Refute it at one input. -/
def fnWorstOutWrong : ChangeSpec := { name := "fnWorstOut", fn := fun _ => fun
  | [d] => { results := [.lit (.bool false)], args := [d] }
  | _ => none }
def FnWorstOutWrongFalsely : Prop := fnWorstOutRow.holds Try.pinned (OpenSpec.ofChange fnWorstOutWrong)

/- THE SECOND FORM. 'bulk': how many values and letters a reading holds, each counted each time it is reached (what is shared counts as often as it is met; a slice's spare places count too). A statement '..UptoSaid' is the law's where the arguments, and the package variables that the reading takes, are together of bulk at most 1048576: NARROWER than '..Said'. Prove '..Said' where nothing that the law and all that it calls make is longer than what came in: it says more and counts as full. Else prove '..UptoSaid'. A law counts once. -/
mutual
def uptoBulk {H : Type} : DataW H → Nat
  | .lit (.string bytes) => bytes.length + 1
  | .lit _ => 1
  | .nil => 1
  | .ptr d => uptoBulk d + 1
  | .slice elems spare => uptoBulkAll elems + uptoBulkAll spare + 1
  | .agg parts => uptoBulkAll parts + 1
  | .iface _ d => uptoBulk d + 1
  | .map entries => uptoBulkEntries entries + 1
  | .held _ => 1
def uptoBulkAll {H : Type} : List (DataW H) → Nat
  | [] => 0
  | d :: r => uptoBulk d + uptoBulkAll r
def uptoBulkEntries {H : Type} : List (Lit × DataW H) → Nat
  | [] => 0
  | x :: r => uptoBulkEntry x + uptoBulkEntries r
def uptoBulkEntry {H : Type} : Lit × DataW H → Nat
  | (.string bytes, d) => bytes.length + uptoBulk d + 1
  | (_, d) => uptoBulk d + 1
 end
def uptoSmall : (H : Type) → List (DataW H) → Bool := fun _ ds => decide (uptoBulkAll ds ≤ 1048576)
def OpenSpec.upto (s : _root_.Go.ChangeSpec) : _root_.Go.OpenSpec := { _root_.Go.OpenSpec.ofChange s with cond := some uptoSmall }

/-- 'laws.FnOutMay', WHERE WHAT IT READS IS OF BULK AT MOST 1048576: true; the input reads as it did. -/
def fnOutMayUptoRow : OpenClaim := { program := "ytgmjffplinpobaa", sum := "a90d82e7a52c8022011d9fc7590379fec526e9eb185f90b0ca7b30b7349a410c", func := "loop.example/switchpuzzles/laws.FnOutMay", spec := "fnOutMay", apart := false, narrowed := true }
def FnOutMayUptoSaid : Prop := fnOutMayUptoRow.holds Try.pinned (OpenSpec.upto fnOutMaySpec)

/-- 'laws.FnOutBy', WHERE WHAT IT READS IS OF BULK AT MOST 1048576: true; the input reads as it did. -/
def fnOutByUptoRow : OpenClaim := { program := "ytgmjffplinpobaa", sum := "a90d82e7a52c8022011d9fc7590379fec526e9eb185f90b0ca7b30b7349a410c", func := "loop.example/switchpuzzles/laws.FnOutBy", spec := "fnOutBy", apart := false, narrowed := true }
def FnOutByUptoSaid : Prop := fnOutByUptoRow.holds Try.pinned (OpenSpec.upto fnOutBySpec)

/-- 'laws.FnQuietSets', WHERE WHAT IT READS IS OF BULK AT MOST 1048576: true; the input reads as it did. -/
def fnQuietSetsUptoRow : OpenClaim := { program := "ytgmjffplinpobaa", sum := "a90d82e7a52c8022011d9fc7590379fec526e9eb185f90b0ca7b30b7349a410c", func := "loop.example/switchpuzzles/laws.FnQuietSets", spec := "fnQuietSets", apart := false, narrowed := true }
def FnQuietSetsUptoSaid : Prop := fnQuietSetsUptoRow.holds Try.pinned (OpenSpec.upto fnQuietSetsSpec)

/-- 'laws.FnWorstOut', WHERE WHAT IT READS IS OF BULK AT MOST 1048576: true; the input reads as it did. -/
def fnWorstOutUptoRow : OpenClaim := { program := "ytgmjffplinpobaa", sum := "a90d82e7a52c8022011d9fc7590379fec526e9eb185f90b0ca7b30b7349a410c", func := "loop.example/switchpuzzles/laws.FnWorstOut", spec := "fnWorstOut", apart := false, narrowed := true }
def FnWorstOutUptoSaid : Prop := fnWorstOutUptoRow.holds Try.pinned (OpenSpec.upto fnWorstOutSpec)

end Rows
end Go.Proofs.Ytgmjffplinpobaa

/-
  No cell of these rows narrows 'for every input' (looked for: loops, veiled, ifaces, maps, wideKeys, modest, calm, conditions, laid).
  DERIVED. THE GIVEN ROWS OF THIS SEAT. 6 by the template 'for every input the law returns true; each argument reads behind the call as it read before'; 0 by the template 'total and deterministic' (their statements: YtajfanncdfdalaaTotals.lean).
  GIVEN WITH THE SEED: the statements are not yours to turn. If you find one false, say at which input.
  Laid BY PROGRAM, IN A SANDBOX (cutbox-rows.mjs): the forced cells as the released guide's own fill.sh prints them over the translation c4c722b93a0d613c… (all of the seat's roots in one cut). By AI agents, Wed Nov 11 2026. No macro, syntax, notation, axiom, sorry.
-/
import Derived.Test.YtajfanncdfdalaaChecked
import GoSem.Claim
import GoSem.ClaimJoined
import GoSem.ClaimMapViews
import Derived.JoinedTies
import Derived.KernelRfl
namespace Go.Proofs.Ytajfanncdfdalaa
/- THE CELL 'sum', in the pinned program and in every row, IS THE sha256 OF THE DUMP (.gsa) THAT YtajfanncdfdalaaProg.lean LOADS. Nothing in Lean hashes anything: it is a label: what it is worth is what the hold of that sum in a sandbox is worth. -/
noncomputable def Try.pinned : Pinned := { name := "ytajfanncdfdalaa", sum := "c4c722b93a0d613c7ca1842a184bde7c3ae158a1addea701115a128226d096f2", checked := Try.checked }
namespace Rows
def none {H : Type} : Left H := { results := [], args := [] }

/-- 'laws.FnBoardValid': WHATEVER THE INPUT: true; the input reads as it did. -/
def fnBoardValidSpec : ChangeSpec := { name := "fnBoardValid", fn := fun _ => fun
  | [d] => { results := [.lit (.bool true)], args := [d] }
  | _ => none }
def fnBoardValidRow : OpenClaim := { program := "ytajfanncdfdalaa", sum := "c4c722b93a0d613c7ca1842a184bde7c3ae158a1addea701115a128226d096f2", func := "loop.example/switchpuzzles/laws.FnBoardValid", spec := "fnBoardValid", plainKeys := false, apart := false }
def FnBoardValidSaid : Prop := fnBoardValidRow.holds Try.pinned (OpenSpec.ofChange fnBoardValidSpec)

/-- ITS FALSE NEIGHBOUR: 'it returns false'. Refute it at one input. -/
def fnBoardValidWrong : ChangeSpec := { name := "fnBoardValid", fn := fun _ => fun
  | [d] => { results := [.lit (.bool false)], args := [d] }
  | _ => none }
def FnBoardValidWrongFalsely : Prop := fnBoardValidRow.holds Try.pinned (OpenSpec.ofChange fnBoardValidWrong)

/-- 'laws.FnBoardDone': WHATEVER THE INPUT: true; the input reads as it did. -/
def fnBoardDoneSpec : ChangeSpec := { name := "fnBoardDone", fn := fun _ => fun
  | [d] => { results := [.lit (.bool true)], args := [d] }
  | _ => none }
def fnBoardDoneRow : OpenClaim := { program := "ytajfanncdfdalaa", sum := "c4c722b93a0d613c7ca1842a184bde7c3ae158a1addea701115a128226d096f2", func := "loop.example/switchpuzzles/laws.FnBoardDone", spec := "fnBoardDone", plainKeys := false, apart := false }
def FnBoardDoneSaid : Prop := fnBoardDoneRow.holds Try.pinned (OpenSpec.ofChange fnBoardDoneSpec)

/-- ITS FALSE NEIGHBOUR: 'it returns false'. Refute it at one input. -/
def fnBoardDoneWrong : ChangeSpec := { name := "fnBoardDone", fn := fun _ => fun
  | [d] => { results := [.lit (.bool false)], args := [d] }
  | _ => none }
def FnBoardDoneWrongFalsely : Prop := fnBoardDoneRow.holds Try.pinned (OpenSpec.ofChange fnBoardDoneWrong)

/-- 'laws.FnFreePlace': WHATEVER THE INPUT: true; the input reads as it did. -/
def fnFreePlaceSpec : ChangeSpec := { name := "fnFreePlace", fn := fun _ => fun
  | [d] => { results := [.lit (.bool true)], args := [d] }
  | _ => none }
def fnFreePlaceRow : OpenClaim := { program := "ytajfanncdfdalaa", sum := "c4c722b93a0d613c7ca1842a184bde7c3ae158a1addea701115a128226d096f2", func := "loop.example/switchpuzzles/laws.FnFreePlace", spec := "fnFreePlace", plainKeys := false, apart := false }
def FnFreePlaceSaid : Prop := fnFreePlaceRow.holds Try.pinned (OpenSpec.ofChange fnFreePlaceSpec)

/-- ITS FALSE NEIGHBOUR: 'it returns false'. Refute it at one input. -/
def fnFreePlaceWrong : ChangeSpec := { name := "fnFreePlace", fn := fun _ => fun
  | [d] => { results := [.lit (.bool false)], args := [d] }
  | _ => none }
def FnFreePlaceWrongFalsely : Prop := fnFreePlaceRow.holds Try.pinned (OpenSpec.ofChange fnFreePlaceWrong)

/-- 'laws.FnBoardOdd': WHATEVER THE INPUT: true; the input reads as it did. -/
def fnBoardOddSpec : ChangeSpec := { name := "fnBoardOdd", fn := fun _ => fun
  | [d] => { results := [.lit (.bool true)], args := [d] }
  | _ => none }
def fnBoardOddRow : OpenClaim := { program := "ytajfanncdfdalaa", sum := "c4c722b93a0d613c7ca1842a184bde7c3ae158a1addea701115a128226d096f2", func := "loop.example/switchpuzzles/laws.FnBoardOdd", spec := "fnBoardOdd", plainKeys := false, apart := false }
def FnBoardOddSaid : Prop := fnBoardOddRow.holds Try.pinned (OpenSpec.ofChange fnBoardOddSpec)

/-- ITS FALSE NEIGHBOUR: 'it returns false'. Refute it at one input. -/
def fnBoardOddWrong : ChangeSpec := { name := "fnBoardOdd", fn := fun _ => fun
  | [d] => { results := [.lit (.bool false)], args := [d] }
  | _ => none }
def FnBoardOddWrongFalsely : Prop := fnBoardOddRow.holds Try.pinned (OpenSpec.ofChange fnBoardOddWrong)

/-- 'laws.FnFreeFar': WHATEVER THE INPUT: true; the input reads as it did. -/
def fnFreeFarSpec : ChangeSpec := { name := "fnFreeFar", fn := fun _ => fun
  | [d] => { results := [.lit (.bool true)], args := [d] }
  | _ => none }
def fnFreeFarRow : OpenClaim := { program := "ytajfanncdfdalaa", sum := "c4c722b93a0d613c7ca1842a184bde7c3ae158a1addea701115a128226d096f2", func := "loop.example/switchpuzzles/laws.FnFreeFar", spec := "fnFreeFar", plainKeys := false, apart := false }
def FnFreeFarSaid : Prop := fnFreeFarRow.holds Try.pinned (OpenSpec.ofChange fnFreeFarSpec)

/-- ITS FALSE NEIGHBOUR: 'it returns false'. Refute it at one input. -/
def fnFreeFarWrong : ChangeSpec := { name := "fnFreeFar", fn := fun _ => fun
  | [d] => { results := [.lit (.bool false)], args := [d] }
  | _ => none }
def FnFreeFarWrongFalsely : Prop := fnFreeFarRow.holds Try.pinned (OpenSpec.ofChange fnFreeFarWrong)

/-- 'laws.FnTilesMay': WHATEVER THE INPUT: true; the input reads as it did. -/
def fnTilesMaySpec : ChangeSpec := { name := "fnTilesMay", fn := fun _ => fun
  | [d] => { results := [.lit (.bool true)], args := [d] }
  | _ => none }
def fnTilesMayRow : OpenClaim := { program := "ytajfanncdfdalaa", sum := "c4c722b93a0d613c7ca1842a184bde7c3ae158a1addea701115a128226d096f2", func := "loop.example/switchpuzzles/laws.FnTilesMay", spec := "fnTilesMay", plainKeys := false, apart := false }
def FnTilesMaySaid : Prop := fnTilesMayRow.holds Try.pinned (OpenSpec.ofChange fnTilesMaySpec)

/-- ITS FALSE NEIGHBOUR: 'it returns false'. Refute it at one input. -/
def fnTilesMayWrong : ChangeSpec := { name := "fnTilesMay", fn := fun _ => fun
  | [d] => { results := [.lit (.bool false)], args := [d] }
  | _ => none }
def FnTilesMayWrongFalsely : Prop := fnTilesMayRow.holds Try.pinned (OpenSpec.ofChange fnTilesMayWrong)

/- THE SECOND FORM. 'bulk': how many values and letters a reading holds, each counted each time it is reached (what is shared counts as often as it is met; a slice's spare places count too). A statement '..UptoSaid' is the law's where the arguments, and the package variables that the reading takes, are together of bulk at most 1048576: NARROWER than '..Said'. Prove '..Said' where nothing that the law and all that it calls make is longer than what came in: it says more and counts as full. Else prove '..UptoSaid'. A law counts once. -/
mutual
def uptoBulk {H : Type} : DataW H → Nat
  | .lit (.string bytes) => bytes.length + 1
  | .lit _ => 1
  | .nil => 1
  | .ptr d => uptoBulk d + 1
  | .slice elems spare => uptoBulkAll elems + uptoBulkAll spare + 1
  | .agg parts => uptoBulkAll parts + 1
  | .iface _ d => uptoBulk d + 1
  | .map entries => uptoBulkEntries entries + 1
  | .held _ => 1
def uptoBulkAll {H : Type} : List (DataW H) → Nat
  | [] => 0
  | d :: r => uptoBulk d + uptoBulkAll r
def uptoBulkEntries {H : Type} : List (Lit × DataW H) → Nat
  | [] => 0
  | x :: r => uptoBulkEntry x + uptoBulkEntries r
def uptoBulkEntry {H : Type} : Lit × DataW H → Nat
  | (.string bytes, d) => bytes.length + uptoBulk d + 1
  | (_, d) => uptoBulk d + 1
 end
def uptoSmall : (H : Type) → List (DataW H) → Bool := fun _ ds => decide (uptoBulkAll ds ≤ 1048576)
def OpenSpec.upto (s : _root_.Go.ChangeSpec) : _root_.Go.OpenSpec := { _root_.Go.OpenSpec.ofChange s with cond := some uptoSmall }

/-- 'laws.FnBoardValid', WHERE WHAT IT READS IS OF BULK AT MOST 1048576: true; the input reads as it did. -/
def fnBoardValidUptoRow : OpenClaim := { program := "ytajfanncdfdalaa", sum := "c4c722b93a0d613c7ca1842a184bde7c3ae158a1addea701115a128226d096f2", func := "loop.example/switchpuzzles/laws.FnBoardValid", spec := "fnBoardValid", plainKeys := false, apart := false, narrowed := true }
def FnBoardValidUptoSaid : Prop := fnBoardValidUptoRow.holds Try.pinned (OpenSpec.upto fnBoardValidSpec)

/-- 'laws.FnBoardDone', WHERE WHAT IT READS IS OF BULK AT MOST 1048576: true; the input reads as it did. -/
def fnBoardDoneUptoRow : OpenClaim := { program := "ytajfanncdfdalaa", sum := "c4c722b93a0d613c7ca1842a184bde7c3ae158a1addea701115a128226d096f2", func := "loop.example/switchpuzzles/laws.FnBoardDone", spec := "fnBoardDone", plainKeys := false, apart := false, narrowed := true }
def FnBoardDoneUptoSaid : Prop := fnBoardDoneUptoRow.holds Try.pinned (OpenSpec.upto fnBoardDoneSpec)

/-- 'laws.FnFreePlace', WHERE WHAT IT READS IS OF BULK AT MOST 1048576: true; the input reads as it did. -/
def fnFreePlaceUptoRow : OpenClaim := { program := "ytajfanncdfdalaa", sum := "c4c722b93a0d613c7ca1842a184bde7c3ae158a1addea701115a128226d096f2", func := "loop.example/switchpuzzles/laws.FnFreePlace", spec := "fnFreePlace", plainKeys := false, apart := false, narrowed := true }
def FnFreePlaceUptoSaid : Prop := fnFreePlaceUptoRow.holds Try.pinned (OpenSpec.upto fnFreePlaceSpec)

/-- 'laws.FnBoardOdd', WHERE WHAT IT READS IS OF BULK AT MOST 1048576: true; the input reads as it did. -/
def fnBoardOddUptoRow : OpenClaim := { program := "ytajfanncdfdalaa", sum := "c4c722b93a0d613c7ca1842a184bde7c3ae158a1addea701115a128226d096f2", func := "loop.example/switchpuzzles/laws.FnBoardOdd", spec := "fnBoardOdd", plainKeys := false, apart := false, narrowed := true }
def FnBoardOddUptoSaid : Prop := fnBoardOddUptoRow.holds Try.pinned (OpenSpec.upto fnBoardOddSpec)

/-- 'laws.FnFreeFar', WHERE WHAT IT READS IS OF BULK AT MOST 1048576: true; the input reads as it did. -/
def fnFreeFarUptoRow : OpenClaim := { program := "ytajfanncdfdalaa", sum := "c4c722b93a0d613c7ca1842a184bde7c3ae158a1addea701115a128226d096f2", func := "loop.example/switchpuzzles/laws.FnFreeFar", spec := "fnFreeFar", plainKeys := false, apart := false, narrowed := true }
def FnFreeFarUptoSaid : Prop := fnFreeFarUptoRow.holds Try.pinned (OpenSpec.upto fnFreeFarSpec)

/-- 'laws.FnTilesMay', WHERE WHAT IT READS IS OF BULK AT MOST 1048576: true; the input reads as it did. -/
def fnTilesMayUptoRow : OpenClaim := { program := "ytajfanncdfdalaa", sum := "c4c722b93a0d613c7ca1842a184bde7c3ae158a1addea701115a128226d096f2", func := "loop.example/switchpuzzles/laws.FnTilesMay", spec := "fnTilesMay", plainKeys := false, apart := false, narrowed := true }
def FnTilesMayUptoSaid : Prop := fnTilesMayUptoRow.holds Try.pinned (OpenSpec.upto fnTilesMaySpec)

end Rows
end Go.Proofs.Ytajfanncdfdalaa

/-
  No cell of these rows narrows 'for every input' (looked for: loops, veiled, ifaces, maps, wideKeys, modest, calm, conditions, laid).
  DERIVED. THE GIVEN ROWS OF THIS SEAT. 6 by the template 'for every input the law returns true; each argument reads behind the call as it read before'; 0 by the template 'total and deterministic' (their statements: YtpfjbofnjidkiaaTotals.lean).
  GIVEN WITH THE SEED: the statements are not yours to turn. If you find one false, say at which input.
  Laid BY PROGRAM, IN A SANDBOX (cutbox-rows.mjs): the forced cells as the released guide's own fill.sh prints them over the translation b3f0fe31a73ca084… (all of the seat's roots in one cut). By AI agents, Wed Nov 11 2026. No macro, syntax, notation, axiom, sorry.
-/
import Derived.Test.YtpfjbofnjidkiaaChecked
import GoSem.Claim
import GoSem.ClaimJoined
import GoSem.ClaimMapViews
import Derived.JoinedTies
import Derived.KernelRfl
namespace Go.Proofs.Ytpfjbofnjidkiaa
/- THE CELL 'sum', in the pinned program and in every row, IS THE sha256 OF THE DUMP (.gsa) THAT YtpfjbofnjidkiaaProg.lean LOADS. Nothing in Lean hashes anything: it is a label: what it is worth is what the hold of that sum in a sandbox is worth. -/
noncomputable def Try.pinned : Pinned := { name := "ytpfjbofnjidkiaa", sum := "b3f0fe31a73ca084d3a92b45aae948308b6c4a57260355247cc35409aeb4d387", checked := Try.checked }
namespace Rows
def none {H : Type} : Left H := { results := [], args := [] }

/-- 'laws.FnExactPermNone': WHATEVER THE INPUT: true; the input reads as it did. -/
def fnExactPermNoneSpec : ChangeSpec := { name := "fnExactPermNone", fn := fun _ => fun
  | [d] => { results := [.lit (.bool true)], args := [d] }
  | _ => none }
def fnExactPermNoneRow : OpenClaim := { program := "ytpfjbofnjidkiaa", sum := "b3f0fe31a73ca084d3a92b45aae948308b6c4a57260355247cc35409aeb4d387", func := "loop.example/switchpuzzles/laws.FnExactPermNone", spec := "fnExactPermNone", apart := false }
def FnExactPermNoneSaid : Prop := fnExactPermNoneRow.holds Try.pinned (OpenSpec.ofChange fnExactPermNoneSpec)

/-- ITS FALSE NEIGHBOUR: 'it returns false'. Refute it at one input. -/
def fnExactPermNoneWrong : ChangeSpec := { name := "fnExactPermNone", fn := fun _ => fun
  | [d] => { results := [.lit (.bool false)], args := [d] }
  | _ => none }
def FnExactPermNoneWrongFalsely : Prop := fnExactPermNoneRow.holds Try.pinned (OpenSpec.ofChange fnExactPermNoneWrong)

/-- 'laws.FnExactPermValid': WHATEVER THE INPUT: true; the input reads as it did. -/
def fnExactPermValidSpec : ChangeSpec := { name := "fnExactPermValid", fn := fun _ => fun
  | [d] => { results := [.lit (.bool true)], args := [d] }
  | _ => none }
def fnExactPermValidRow : OpenClaim := { program := "ytpfjbofnjidkiaa", sum := "b3f0fe31a73ca084d3a92b45aae948308b6c4a57260355247cc35409aeb4d387", func := "loop.example/switchpuzzles/laws.FnExactPermValid", spec := "fnExactPermValid", apart := false }
def FnExactPermValidSaid : Prop := fnExactPermValidRow.holds Try.pinned (OpenSpec.ofChange fnExactPermValidSpec)

/-- ITS FALSE NEIGHBOUR: 'it returns false'. Refute it at one input. -/
def fnExactPermValidWrong : ChangeSpec := { name := "fnExactPermValid", fn := fun _ => fun
  | [d] => { results := [.lit (.bool false)], args := [d] }
  | _ => none }
def FnExactPermValidWrongFalsely : Prop := fnExactPermValidRow.holds Try.pinned (OpenSpec.ofChange fnExactPermValidWrong)

/-- 'laws.FnExactBoardDone': WHATEVER THE INPUT: true; the input reads as it did. -/
def fnExactBoardDoneSpec : ChangeSpec := { name := "fnExactBoardDone", fn := fun _ => fun
  | [d1, d2] => { results := [.lit (.bool true)], args := [d1, d2] }
  | _ => none }
def fnExactBoardDoneRow : OpenClaim := { program := "ytpfjbofnjidkiaa", sum := "b3f0fe31a73ca084d3a92b45aae948308b6c4a57260355247cc35409aeb4d387", func := "loop.example/switchpuzzles/laws.FnExactBoardDone", spec := "fnExactBoardDone", apart := false }
def FnExactBoardDoneSaid : Prop := fnExactBoardDoneRow.holds Try.pinned (OpenSpec.ofChange fnExactBoardDoneSpec)

/-- ITS FALSE NEIGHBOUR: 'it returns false'. Refute it at one input. -/
def fnExactBoardDoneWrong : ChangeSpec := { name := "fnExactBoardDone", fn := fun _ => fun
  | [d1, d2] => { results := [.lit (.bool false)], args := [d1, d2] }
  | _ => none }
def FnExactBoardDoneWrongFalsely : Prop := fnExactBoardDoneRow.holds Try.pinned (OpenSpec.ofChange fnExactBoardDoneWrong)

/-- 'laws.FnExactBoardValid': WHATEVER THE INPUT: true; the input reads as it did. -/
def fnExactBoardValidSpec : ChangeSpec := { name := "fnExactBoardValid", fn := fun _ => fun
  | [d] => { results := [.lit (.bool true)], args := [d] }
  | _ => none }
def fnExactBoardValidRow : OpenClaim := { program := "ytpfjbofnjidkiaa", sum := "b3f0fe31a73ca084d3a92b45aae948308b6c4a57260355247cc35409aeb4d387", func := "loop.example/switchpuzzles/laws.FnExactBoardValid", spec := "fnExactBoardValid", apart := false }
def FnExactBoardValidSaid : Prop := fnExactBoardValidRow.holds Try.pinned (OpenSpec.ofChange fnExactBoardValidSpec)

/-- ITS FALSE NEIGHBOUR: 'it returns false'. Refute it at one input. -/
def fnExactBoardValidWrong : ChangeSpec := { name := "fnExactBoardValid", fn := fun _ => fun
  | [d] => { results := [.lit (.bool false)], args := [d] }
  | _ => none }
def FnExactBoardValidWrongFalsely : Prop := fnExactBoardValidRow.holds Try.pinned (OpenSpec.ofChange fnExactBoardValidWrong)

/-- 'laws.FnExactPermThen': WHATEVER THE INPUT: true; the input reads as it did. -/
def fnExactPermThenSpec : ChangeSpec := { name := "fnExactPermThen", fn := fun _ => fun
  | [d1, d2] => { results := [.lit (.bool true)], args := [d1, d2] }
  | _ => none }
def fnExactPermThenRow : OpenClaim := { program := "ytpfjbofnjidkiaa", sum := "b3f0fe31a73ca084d3a92b45aae948308b6c4a57260355247cc35409aeb4d387", func := "loop.example/switchpuzzles/laws.FnExactPermThen", spec := "fnExactPermThen", apart := false }
def FnExactPermThenSaid : Prop := fnExactPermThenRow.holds Try.pinned (OpenSpec.ofChange fnExactPermThenSpec)

/-- ITS FALSE NEIGHBOUR: 'it returns false'. Refute it at one input. -/
def fnExactPermThenWrong : ChangeSpec := { name := "fnExactPermThen", fn := fun _ => fun
  | [d1, d2] => { results := [.lit (.bool false)], args := [d1, d2] }
  | _ => none }
def FnExactPermThenWrongFalsely : Prop := fnExactPermThenRow.holds Try.pinned (OpenSpec.ofChange fnExactPermThenWrong)

/-- 'laws.FnExactPermBack': WHATEVER THE INPUT: true; the input reads as it did. -/
def fnExactPermBackSpec : ChangeSpec := { name := "fnExactPermBack", fn := fun _ => fun
  | [d] => { results := [.lit (.bool true)], args := [d] }
  | _ => none }
def fnExactPermBackRow : OpenClaim := { program := "ytpfjbofnjidkiaa", sum := "b3f0fe31a73ca084d3a92b45aae948308b6c4a57260355247cc35409aeb4d387", func := "loop.example/switchpuzzles/laws.FnExactPermBack", spec := "fnExactPermBack", apart := false }
def FnExactPermBackSaid : Prop := fnExactPermBackRow.holds Try.pinned (OpenSpec.ofChange fnExactPermBackSpec)

/-- ITS FALSE NEIGHBOUR: 'it returns false'. Refute it at one input. -/
def fnExactPermBackWrong : ChangeSpec := { name := "fnExactPermBack", fn := fun _ => fun
  | [d] => { results := [.lit (.bool false)], args := [d] }
  | _ => none }
def FnExactPermBackWrongFalsely : Prop := fnExactPermBackRow.holds Try.pinned (OpenSpec.ofChange fnExactPermBackWrong)

/- THE SECOND FORM. 'bulk': how many values and letters a reading holds, each counted each time it is reached (what is shared counts as often as it is met; a slice's spare places count too). A statement '..UptoSaid' is the law's where the arguments, and the package variables that the reading takes, are together of bulk at most 1048576: NARROWER than '..Said'. Prove '..Said' where nothing that the law and all that it calls make is longer than what came in: it says more and counts as full. Else prove '..UptoSaid'. A law counts once. -/
mutual
def uptoBulk {H : Type} : DataW H → Nat
  | .lit (.string bytes) => bytes.length + 1
  | .lit _ => 1
  | .nil => 1
  | .ptr d => uptoBulk d + 1
  | .slice elems spare => uptoBulkAll elems + uptoBulkAll spare + 1
  | .agg parts => uptoBulkAll parts + 1
  | .iface _ d => uptoBulk d + 1
  | .map entries => uptoBulkEntries entries + 1
  | .held _ => 1
def uptoBulkAll {H : Type} : List (DataW H) → Nat
  | [] => 0
  | d :: r => uptoBulk d + uptoBulkAll r
def uptoBulkEntries {H : Type} : List (Lit × DataW H) → Nat
  | [] => 0
  | x :: r => uptoBulkEntry x + uptoBulkEntries r
def uptoBulkEntry {H : Type} : Lit × DataW H → Nat
  | (.string bytes, d) => bytes.length + uptoBulk d + 1
  | (_, d) => uptoBulk d + 1
 end
def uptoSmall : (H : Type) → List (DataW H) → Bool := fun _ ds => decide (uptoBulkAll ds ≤ 1048576)
def OpenSpec.upto (s : _root_.Go.ChangeSpec) : _root_.Go.OpenSpec := { _root_.Go.OpenSpec.ofChange s with cond := some uptoSmall }

/-- 'laws.FnExactPermNone', WHERE WHAT IT READS IS OF BULK AT MOST 1048576: true; the input reads as it did. -/
def fnExactPermNoneUptoRow : OpenClaim := { program := "ytpfjbofnjidkiaa", sum := "b3f0fe31a73ca084d3a92b45aae948308b6c4a57260355247cc35409aeb4d387", func := "loop.example/switchpuzzles/laws.FnExactPermNone", spec := "fnExactPermNone", apart := false, narrowed := true }
def FnExactPermNoneUptoSaid : Prop := fnExactPermNoneUptoRow.holds Try.pinned (OpenSpec.upto fnExactPermNoneSpec)

/-- 'laws.FnExactPermValid', WHERE WHAT IT READS IS OF BULK AT MOST 1048576: true; the input reads as it did. -/
def fnExactPermValidUptoRow : OpenClaim := { program := "ytpfjbofnjidkiaa", sum := "b3f0fe31a73ca084d3a92b45aae948308b6c4a57260355247cc35409aeb4d387", func := "loop.example/switchpuzzles/laws.FnExactPermValid", spec := "fnExactPermValid", apart := false, narrowed := true }
def FnExactPermValidUptoSaid : Prop := fnExactPermValidUptoRow.holds Try.pinned (OpenSpec.upto fnExactPermValidSpec)

/-- 'laws.FnExactBoardDone', WHERE WHAT IT READS IS OF BULK AT MOST 1048576: true; the input reads as it did. -/
def fnExactBoardDoneUptoRow : OpenClaim := { program := "ytpfjbofnjidkiaa", sum := "b3f0fe31a73ca084d3a92b45aae948308b6c4a57260355247cc35409aeb4d387", func := "loop.example/switchpuzzles/laws.FnExactBoardDone", spec := "fnExactBoardDone", apart := false, narrowed := true }
def FnExactBoardDoneUptoSaid : Prop := fnExactBoardDoneUptoRow.holds Try.pinned (OpenSpec.upto fnExactBoardDoneSpec)

/-- 'laws.FnExactBoardValid', WHERE WHAT IT READS IS OF BULK AT MOST 1048576: true; the input reads as it did. -/
def fnExactBoardValidUptoRow : OpenClaim := { program := "ytpfjbofnjidkiaa", sum := "b3f0fe31a73ca084d3a92b45aae948308b6c4a57260355247cc35409aeb4d387", func := "loop.example/switchpuzzles/laws.FnExactBoardValid", spec := "fnExactBoardValid", apart := false, narrowed := true }
def FnExactBoardValidUptoSaid : Prop := fnExactBoardValidUptoRow.holds Try.pinned (OpenSpec.upto fnExactBoardValidSpec)

/-- 'laws.FnExactPermThen', WHERE WHAT IT READS IS OF BULK AT MOST 1048576: true; the input reads as it did. -/
def fnExactPermThenUptoRow : OpenClaim := { program := "ytpfjbofnjidkiaa", sum := "b3f0fe31a73ca084d3a92b45aae948308b6c4a57260355247cc35409aeb4d387", func := "loop.example/switchpuzzles/laws.FnExactPermThen", spec := "fnExactPermThen", apart := false, narrowed := true }
def FnExactPermThenUptoSaid : Prop := fnExactPermThenUptoRow.holds Try.pinned (OpenSpec.upto fnExactPermThenSpec)

/-- 'laws.FnExactPermBack', WHERE WHAT IT READS IS OF BULK AT MOST 1048576: true; the input reads as it did. -/
def fnExactPermBackUptoRow : OpenClaim := { program := "ytpfjbofnjidkiaa", sum := "b3f0fe31a73ca084d3a92b45aae948308b6c4a57260355247cc35409aeb4d387", func := "loop.example/switchpuzzles/laws.FnExactPermBack", spec := "fnExactPermBack", apart := false, narrowed := true }
def FnExactPermBackUptoSaid : Prop := fnExactPermBackUptoRow.holds Try.pinned (OpenSpec.upto fnExactPermBackSpec)

end Rows
end Go.Proofs.Ytpfjbofnjidkiaa

/-
  No cell of these rows narrows 'for every input' (looked for: loops, veiled, ifaces, maps, wideKeys, modest, calm, conditions, laid).
  DERIVED. THE GIVEN ROWS OF THIS SEAT. 6 by the template 'for every input the law returns true; each argument reads behind the call as it read before'; 0 by the template 'total and deterministic' (their statements: YthcghpcmmjnijaaTotals.lean).
  GIVEN WITH THE SEED: the statements are not yours to turn. If you find one false, say at which input.
  Laid BY PROGRAM, IN A SANDBOX (cutbox-rows.mjs): the forced cells as the released guide's own fill.sh prints them over the translation 100dcc2d324d38f6… (all of the seat's roots in one cut). By AI agents, Wed Nov 11 2026. No macro, syntax, notation, axiom, sorry.
-/
import Derived.Test.YthcghpcmmjnijaaChecked
import GoSem.Claim
import GoSem.ClaimJoined
import GoSem.ClaimMapViews
import Derived.JoinedTies
import Derived.KernelRfl
namespace Go.Proofs.Ythcghpcmmjnijaa
/- THE CELL 'sum', in the pinned program and in every row, IS THE sha256 OF THE DUMP (.gsa) THAT YthcghpcmmjnijaaProg.lean LOADS. Nothing in Lean hashes anything: it is a label: what it is worth is what the hold of that sum in a sandbox is worth. -/
noncomputable def Try.pinned : Pinned := { name := "ythcghpcmmjnijaa", sum := "100dcc2d324d38f633a8a0b0248bb2c9eba0c83790f0298e75f37022ab93977f", checked := Try.checked }
namespace Rows
def none {H : Type} : Left H := { results := [], args := [] }

/-- 'laws.FnExactMovesValid': WHATEVER THE INPUT: true; the input reads as it did. -/
def fnExactMovesValidSpec : ChangeSpec := { name := "fnExactMovesValid", fn := fun _ => fun
  | [d1, d2] => { results := [.lit (.bool true)], args := [d1, d2] }
  | _ => none }
def fnExactMovesValidRow : OpenClaim := { program := "ythcghpcmmjnijaa", sum := "100dcc2d324d38f633a8a0b0248bb2c9eba0c83790f0298e75f37022ab93977f", func := "loop.example/switchpuzzles/laws.FnExactMovesValid", spec := "fnExactMovesValid", apart := false }
def FnExactMovesValidSaid : Prop := fnExactMovesValidRow.holds Try.pinned (OpenSpec.ofChange fnExactMovesValidSpec)

/-- ITS FALSE NEIGHBOUR: 'it returns false'. Refute it at one input. -/
def fnExactMovesValidWrong : ChangeSpec := { name := "fnExactMovesValid", fn := fun _ => fun
  | [d1, d2] => { results := [.lit (.bool false)], args := [d1, d2] }
  | _ => none }
def FnExactMovesValidWrongFalsely : Prop := fnExactMovesValidRow.holds Try.pinned (OpenSpec.ofChange fnExactMovesValidWrong)

/-- 'laws.FnPermNone': WHATEVER THE INPUT: true; the input reads as it did. -/
def fnPermNoneSpec : ChangeSpec := { name := "fnPermNone", fn := fun _ => fun
  | [d] => { results := [.lit (.bool true)], args := [d] }
  | _ => none }
def fnPermNoneRow : OpenClaim := { program := "ythcghpcmmjnijaa", sum := "100dcc2d324d38f633a8a0b0248bb2c9eba0c83790f0298e75f37022ab93977f", func := "loop.example/switchpuzzles/laws.FnPermNone", spec := "fnPermNone", apart := false }
def FnPermNoneSaid : Prop := fnPermNoneRow.holds Try.pinned (OpenSpec.ofChange fnPermNoneSpec)

/-- ITS FALSE NEIGHBOUR: 'it returns false'. Refute it at one input. -/
def fnPermNoneWrong : ChangeSpec := { name := "fnPermNone", fn := fun _ => fun
  | [d] => { results := [.lit (.bool false)], args := [d] }
  | _ => none }
def FnPermNoneWrongFalsely : Prop := fnPermNoneRow.holds Try.pinned (OpenSpec.ofChange fnPermNoneWrong)

/-- 'laws.FnPermValid': WHATEVER THE INPUT: true; the input reads as it did. -/
def fnPermValidSpec : ChangeSpec := { name := "fnPermValid", fn := fun _ => fun
  | [d] => { results := [.lit (.bool true)], args := [d] }
  | _ => none }
def fnPermValidRow : OpenClaim := { program := "ythcghpcmmjnijaa", sum := "100dcc2d324d38f633a8a0b0248bb2c9eba0c83790f0298e75f37022ab93977f", func := "loop.example/switchpuzzles/laws.FnPermValid", spec := "fnPermValid", apart := false }
def FnPermValidSaid : Prop := fnPermValidRow.holds Try.pinned (OpenSpec.ofChange fnPermValidSpec)

/-- ITS FALSE NEIGHBOUR: 'it returns false'. Refute it at one input. -/
def fnPermValidWrong : ChangeSpec := { name := "fnPermValid", fn := fun _ => fun
  | [d] => { results := [.lit (.bool false)], args := [d] }
  | _ => none }
def FnPermValidWrongFalsely : Prop := fnPermValidRow.holds Try.pinned (OpenSpec.ofChange fnPermValidWrong)

/-- 'laws.FnPermThen': WHATEVER THE INPUT: true; the input reads as it did. -/
def fnPermThenSpec : ChangeSpec := { name := "fnPermThen", fn := fun _ => fun
  | [d1, d2] => { results := [.lit (.bool true)], args := [d1, d2] }
  | _ => none }
def fnPermThenRow : OpenClaim := { program := "ythcghpcmmjnijaa", sum := "100dcc2d324d38f633a8a0b0248bb2c9eba0c83790f0298e75f37022ab93977f", func := "loop.example/switchpuzzles/laws.FnPermThen", spec := "fnPermThen", apart := false }
def FnPermThenSaid : Prop := fnPermThenRow.holds Try.pinned (OpenSpec.ofChange fnPermThenSpec)

/-- ITS FALSE NEIGHBOUR: 'it returns false'. Refute it at one input. -/
def fnPermThenWrong : ChangeSpec := { name := "fnPermThen", fn := fun _ => fun
  | [d1, d2] => { results := [.lit (.bool false)], args := [d1, d2] }
  | _ => none }
def FnPermThenWrongFalsely : Prop := fnPermThenRow.holds Try.pinned (OpenSpec.ofChange fnPermThenWrong)

/-- 'laws.FnPermBack': WHATEVER THE INPUT: true; the input reads as it did. -/
def fnPermBackSpec : ChangeSpec := { name := "fnPermBack", fn := fun _ => fun
  | [d] => { results := [.lit (.bool true)], args := [d] }
  | _ => none }
def fnPermBackRow : OpenClaim := { program := "ythcghpcmmjnijaa", sum := "100dcc2d324d38f633a8a0b0248bb2c9eba0c83790f0298e75f37022ab93977f", func := "loop.example/switchpuzzles/laws.FnPermBack", spec := "fnPermBack", apart := false }
def FnPermBackSaid : Prop := fnPermBackRow.holds Try.pinned (OpenSpec.ofChange fnPermBackSpec)

/-- ITS FALSE NEIGHBOUR: 'it returns false'. Refute it at one input. -/
def fnPermBackWrong : ChangeSpec := { name := "fnPermBack", fn := fun _ => fun
  | [d] => { results := [.lit (.bool false)], args := [d] }
  | _ => none }
def FnPermBackWrongFalsely : Prop := fnPermBackRow.holds Try.pinned (OpenSpec.ofChange fnPermBackWrong)

/-- 'laws.FnMovesValid': WHATEVER THE INPUT: true; the input reads as it did. -/
def fnMovesValidSpec : ChangeSpec := { name := "fnMovesValid", fn := fun _ => fun
  | [d] => { results := [.lit (.bool true)], args := [d] }
  | _ => none }
def fnMovesValidRow : OpenClaim := { program := "ythcghpcmmjnijaa", sum := "100dcc2d324d38f633a8a0b0248bb2c9eba0c83790f0298e75f37022ab93977f", func := "loop.example/switchpuzzles/laws.FnMovesValid", spec := "fnMovesValid", apart := false }
def FnMovesValidSaid : Prop := fnMovesValidRow.holds Try.pinned (OpenSpec.ofChange fnMovesValidSpec)

/-- ITS FALSE NEIGHBOUR: 'it returns false'. Refute it at one input. -/
def fnMovesValidWrong : ChangeSpec := { name := "fnMovesValid", fn := fun _ => fun
  | [d] => { results := [.lit (.bool false)], args := [d] }
  | _ => none }
def FnMovesValidWrongFalsely : Prop := fnMovesValidRow.holds Try.pinned (OpenSpec.ofChange fnMovesValidWrong)

/- THE SECOND FORM. 'bulk': how many values and letters a reading holds, each counted each time it is reached (what is shared counts as often as it is met; a slice's spare places count too). A statement '..UptoSaid' is the law's where the arguments, and the package variables that the reading takes, are together of bulk at most 1048576: NARROWER than '..Said'. Prove '..Said' where nothing that the law and all that it calls make is longer than what came in: it says more and counts as full. Else prove '..UptoSaid'. A law counts once. -/
mutual
def uptoBulk {H : Type} : DataW H → Nat
  | .lit (.string bytes) => bytes.length + 1
  | .lit _ => 1
  | .nil => 1
  | .ptr d => uptoBulk d + 1
  | .slice elems spare => uptoBulkAll elems + uptoBulkAll spare + 1
  | .agg parts => uptoBulkAll parts + 1
  | .iface _ d => uptoBulk d + 1
  | .map entries => uptoBulkEntries entries + 1
  | .held _ => 1
def uptoBulkAll {H : Type} : List (DataW H) → Nat
  | [] => 0
  | d :: r => uptoBulk d + uptoBulkAll r
def uptoBulkEntries {H : Type} : List (Lit × DataW H) → Nat
  | [] => 0
  | x :: r => uptoBulkEntry x + uptoBulkEntries r
def uptoBulkEntry {H : Type} : Lit × DataW H → Nat
  | (.string bytes, d) => bytes.length + uptoBulk d + 1
  | (_, d) => uptoBulk d + 1
 end
def uptoSmall : (H : Type) → List (DataW H) → Bool := fun _ ds => decide (uptoBulkAll ds ≤ 1048576)
def OpenSpec.upto (s : _root_.Go.ChangeSpec) : _root_.Go.OpenSpec := { _root_.Go.OpenSpec.ofChange s with cond := some uptoSmall }

/-- 'laws.FnExactMovesValid', WHERE WHAT IT READS IS OF BULK AT MOST 1048576: true; the input reads as it did. -/
def fnExactMovesValidUptoRow : OpenClaim := { program := "ythcghpcmmjnijaa", sum := "100dcc2d324d38f633a8a0b0248bb2c9eba0c83790f0298e75f37022ab93977f", func := "loop.example/switchpuzzles/laws.FnExactMovesValid", spec := "fnExactMovesValid", apart := false, narrowed := true }
def FnExactMovesValidUptoSaid : Prop := fnExactMovesValidUptoRow.holds Try.pinned (OpenSpec.upto fnExactMovesValidSpec)

/-- 'laws.FnPermNone', WHERE WHAT IT READS IS OF BULK AT MOST 1048576: true; the input reads as it did. -/
def fnPermNoneUptoRow : OpenClaim := { program := "ythcghpcmmjnijaa", sum := "100dcc2d324d38f633a8a0b0248bb2c9eba0c83790f0298e75f37022ab93977f", func := "loop.example/switchpuzzles/laws.FnPermNone", spec := "fnPermNone", apart := false, narrowed := true }
def FnPermNoneUptoSaid : Prop := fnPermNoneUptoRow.holds Try.pinned (OpenSpec.upto fnPermNoneSpec)

/-- 'laws.FnPermValid', WHERE WHAT IT READS IS OF BULK AT MOST 1048576: true; the input reads as it did. -/
def fnPermValidUptoRow : OpenClaim := { program := "ythcghpcmmjnijaa", sum := "100dcc2d324d38f633a8a0b0248bb2c9eba0c83790f0298e75f37022ab93977f", func := "loop.example/switchpuzzles/laws.FnPermValid", spec := "fnPermValid", apart := false, narrowed := true }
def FnPermValidUptoSaid : Prop := fnPermValidUptoRow.holds Try.pinned (OpenSpec.upto fnPermValidSpec)

/-- 'laws.FnPermThen', WHERE WHAT IT READS IS OF BULK AT MOST 1048576: true; the input reads as it did. -/
def fnPermThenUptoRow : OpenClaim := { program := "ythcghpcmmjnijaa", sum := "100dcc2d324d38f633a8a0b0248bb2c9eba0c83790f0298e75f37022ab93977f", func := "loop.example/switchpuzzles/laws.FnPermThen", spec := "fnPermThen", apart := false, narrowed := true }
def FnPermThenUptoSaid : Prop := fnPermThenUptoRow.holds Try.pinned (OpenSpec.upto fnPermThenSpec)

/-- 'laws.FnPermBack', WHERE WHAT IT READS IS OF BULK AT MOST 1048576: true; the input reads as it did. -/
def fnPermBackUptoRow : OpenClaim := { program := "ythcghpcmmjnijaa", sum := "100dcc2d324d38f633a8a0b0248bb2c9eba0c83790f0298e75f37022ab93977f", func := "loop.example/switchpuzzles/laws.FnPermBack", spec := "fnPermBack", apart := false, narrowed := true }
def FnPermBackUptoSaid : Prop := fnPermBackUptoRow.holds Try.pinned (OpenSpec.upto fnPermBackSpec)

/-- 'laws.FnMovesValid', WHERE WHAT IT READS IS OF BULK AT MOST 1048576: true; the input reads as it did. -/
def fnMovesValidUptoRow : OpenClaim := { program := "ythcghpcmmjnijaa", sum := "100dcc2d324d38f633a8a0b0248bb2c9eba0c83790f0298e75f37022ab93977f", func := "loop.example/switchpuzzles/laws.FnMovesValid", spec := "fnMovesValid", apart := false, narrowed := true }
def FnMovesValidUptoSaid : Prop := fnMovesValidUptoRow.holds Try.pinned (OpenSpec.upto fnMovesValidSpec)

end Rows
end Go.Proofs.Ythcghpcmmjnijaa

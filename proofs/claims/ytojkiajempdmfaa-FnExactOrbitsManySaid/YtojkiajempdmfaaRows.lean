/-
  No cell of these rows narrows 'for every input' (looked for: loops, veiled, ifaces, maps, wideKeys, modest, calm, conditions, laid).
  DERIVED. THE GIVEN ROWS OF THIS SEAT. 4 by the template 'for every input the law returns true; each argument reads behind the call as it read before'; 0 by the template 'total and deterministic' (their statements: YtojkiajempdmfaaTotals.lean).
  GIVEN WITH THE SEED: the statements are not yours to turn. If you find one false, say at which input.
  Laid BY PROGRAM, IN A SANDBOX (cutbox-rows.mjs): the forced cells as the released guide's own fill.sh prints them over the translation 5664e29355877feb… (all of the seat's roots in one cut). By AI agents, Wed Nov 11 2026. No macro, syntax, notation, axiom, sorry.
-/
import Derived.Test.YtojkiajempdmfaaChecked
import GoSem.Claim
import GoSem.ClaimJoined
import GoSem.ClaimMapViews
import Derived.JoinedTies
import Derived.KernelRfl
namespace Go.Proofs.Ytojkiajempdmfaa
/- THE CELL 'sum', in the pinned program and in every row, IS THE sha256 OF THE DUMP (.gsa) THAT YtojkiajempdmfaaProg.lean LOADS. Nothing in Lean hashes anything: it is a label: what it is worth is what the hold of that sum in a sandbox is worth. -/
noncomputable def Try.pinned : Pinned := { name := "ytojkiajempdmfaa", sum := "5664e29355877feb160752f78a91b78c158c1661e3100cc06831ed0207e49afc", checked := Try.checked }
namespace Rows
def none {H : Type} : Left H := { results := [], args := [] }

/-- 'laws.FnExactOrbitsMany': WHATEVER THE INPUT: true; the input reads as it did. -/
def fnExactOrbitsManySpec : ChangeSpec := { name := "fnExactOrbitsMany", fn := fun _ => fun
  | [d1, d2] => { results := [.lit (.bool true)], args := [d1, d2] }
  | _ => none }
def fnExactOrbitsManyRow : OpenClaim := { program := "ytojkiajempdmfaa", sum := "5664e29355877feb160752f78a91b78c158c1661e3100cc06831ed0207e49afc", func := "loop.example/switchpuzzles/laws.FnExactOrbitsMany", spec := "fnExactOrbitsMany", unfollowed := true, recurses := true, apart := false }
def FnExactOrbitsManySaid : Prop := fnExactOrbitsManyRow.holds Try.pinned (OpenSpec.ofChange fnExactOrbitsManySpec)

/-- ITS FALSE NEIGHBOUR: 'it returns false'. Refute it at one input. -/
def fnExactOrbitsManyWrong : ChangeSpec := { name := "fnExactOrbitsMany", fn := fun _ => fun
  | [d1, d2] => { results := [.lit (.bool false)], args := [d1, d2] }
  | _ => none }
def FnExactOrbitsManyWrongFalsely : Prop := fnExactOrbitsManyRow.holds Try.pinned (OpenSpec.ofChange fnExactOrbitsManyWrong)

/-- 'laws.FnExactOrbitOf': WHATEVER THE INPUT: true; the input reads as it did. -/
def fnExactOrbitOfSpec : ChangeSpec := { name := "fnExactOrbitOf", fn := fun _ => fun
  | [d1, d2, d3] => { results := [.lit (.bool true)], args := [d1, d2, d3] }
  | _ => none }
def fnExactOrbitOfRow : OpenClaim := { program := "ytojkiajempdmfaa", sum := "5664e29355877feb160752f78a91b78c158c1661e3100cc06831ed0207e49afc", func := "loop.example/switchpuzzles/laws.FnExactOrbitOf", spec := "fnExactOrbitOf", unfollowed := true, recurses := true, apart := false }
def FnExactOrbitOfSaid : Prop := fnExactOrbitOfRow.holds Try.pinned (OpenSpec.ofChange fnExactOrbitOfSpec)

/-- ITS FALSE NEIGHBOUR: 'it returns false'. Refute it at one input. -/
def fnExactOrbitOfWrong : ChangeSpec := { name := "fnExactOrbitOf", fn := fun _ => fun
  | [d1, d2, d3] => { results := [.lit (.bool false)], args := [d1, d2, d3] }
  | _ => none }
def FnExactOrbitOfWrongFalsely : Prop := fnExactOrbitOfRow.holds Try.pinned (OpenSpec.ofChange fnExactOrbitOfWrong)

/-- 'laws.FnExactFixedSum': WHATEVER THE INPUT: true; the input reads as it did. -/
def fnExactFixedSumSpec : ChangeSpec := { name := "fnExactFixedSum", fn := fun _ => fun
  | [d1, d2] => { results := [.lit (.bool true)], args := [d1, d2] }
  | _ => none }
def fnExactFixedSumRow : OpenClaim := { program := "ytojkiajempdmfaa", sum := "5664e29355877feb160752f78a91b78c158c1661e3100cc06831ed0207e49afc", func := "loop.example/switchpuzzles/laws.FnExactFixedSum", spec := "fnExactFixedSum", apart := false }
def FnExactFixedSumSaid : Prop := fnExactFixedSumRow.holds Try.pinned (OpenSpec.ofChange fnExactFixedSumSpec)

/-- ITS FALSE NEIGHBOUR: 'it returns false'. Refute it at one input. -/
def fnExactFixedSumWrong : ChangeSpec := { name := "fnExactFixedSum", fn := fun _ => fun
  | [d1, d2] => { results := [.lit (.bool false)], args := [d1, d2] }
  | _ => none }
def FnExactFixedSumWrongFalsely : Prop := fnExactFixedSumRow.holds Try.pinned (OpenSpec.ofChange fnExactFixedSumWrong)

/-- 'laws.FnExactGroupAll': WHATEVER THE INPUT: true; the input reads as it did. -/
def fnExactGroupAllSpec : ChangeSpec := { name := "fnExactGroupAll", fn := fun _ => fun
  | [d1, d2] => { results := [.lit (.bool true)], args := [d1, d2] }
  | _ => none }
def fnExactGroupAllRow : OpenClaim := { program := "ytojkiajempdmfaa", sum := "5664e29355877feb160752f78a91b78c158c1661e3100cc06831ed0207e49afc", func := "loop.example/switchpuzzles/laws.FnExactGroupAll", spec := "fnExactGroupAll", apart := false }
def FnExactGroupAllSaid : Prop := fnExactGroupAllRow.holds Try.pinned (OpenSpec.ofChange fnExactGroupAllSpec)

/-- ITS FALSE NEIGHBOUR: 'it returns false'. Refute it at one input. -/
def fnExactGroupAllWrong : ChangeSpec := { name := "fnExactGroupAll", fn := fun _ => fun
  | [d1, d2] => { results := [.lit (.bool false)], args := [d1, d2] }
  | _ => none }
def FnExactGroupAllWrongFalsely : Prop := fnExactGroupAllRow.holds Try.pinned (OpenSpec.ofChange fnExactGroupAllWrong)

/- THE SECOND FORM. 'bulk': how many values and letters a reading holds, each counted each time it is reached (what is shared counts as often as it is met; a slice's spare places count too). A statement '..UptoSaid' is the law's where the arguments, and the package variables that the reading takes, are together of bulk at most 1048576: NARROWER than '..Said'. Prove '..Said' where nothing that the law and all that it calls make is longer than what came in: it says more and counts as full. Else prove '..UptoSaid'. A law counts once. -/
mutual
def uptoBulk {H : Type} : DataW H → Nat
  | .lit (.string bytes) => bytes.length + 1
  | .lit _ => 1
  | .nil => 1
  | .ptr d => uptoBulk d + 1
  | .slice elems spare => uptoBulkAll elems + uptoBulkAll spare + 1
  | .agg parts => uptoBulkAll parts + 1
  | .iface _ d => uptoBulk d + 1
  | .map entries => uptoBulkEntries entries + 1
  | .held _ => 1
def uptoBulkAll {H : Type} : List (DataW H) → Nat
  | [] => 0
  | d :: r => uptoBulk d + uptoBulkAll r
def uptoBulkEntries {H : Type} : List (Lit × DataW H) → Nat
  | [] => 0
  | x :: r => uptoBulkEntry x + uptoBulkEntries r
def uptoBulkEntry {H : Type} : Lit × DataW H → Nat
  | (.string bytes, d) => bytes.length + uptoBulk d + 1
  | (_, d) => uptoBulk d + 1
 end
def uptoSmall : (H : Type) → List (DataW H) → Bool := fun _ ds => decide (uptoBulkAll ds ≤ 1048576)
def OpenSpec.upto (s : _root_.Go.ChangeSpec) : _root_.Go.OpenSpec := { _root_.Go.OpenSpec.ofChange s with cond := some uptoSmall }

/-- 'laws.FnExactOrbitsMany', WHERE WHAT IT READS IS OF BULK AT MOST 1048576: true; the input reads as it did. -/
def fnExactOrbitsManyUptoRow : OpenClaim := { program := "ytojkiajempdmfaa", sum := "5664e29355877feb160752f78a91b78c158c1661e3100cc06831ed0207e49afc", func := "loop.example/switchpuzzles/laws.FnExactOrbitsMany", spec := "fnExactOrbitsMany", unfollowed := true, recurses := true, apart := false, narrowed := true }
def FnExactOrbitsManyUptoSaid : Prop := fnExactOrbitsManyUptoRow.holds Try.pinned (OpenSpec.upto fnExactOrbitsManySpec)

/-- 'laws.FnExactOrbitOf', WHERE WHAT IT READS IS OF BULK AT MOST 1048576: true; the input reads as it did. -/
def fnExactOrbitOfUptoRow : OpenClaim := { program := "ytojkiajempdmfaa", sum := "5664e29355877feb160752f78a91b78c158c1661e3100cc06831ed0207e49afc", func := "loop.example/switchpuzzles/laws.FnExactOrbitOf", spec := "fnExactOrbitOf", unfollowed := true, recurses := true, apart := false, narrowed := true }
def FnExactOrbitOfUptoSaid : Prop := fnExactOrbitOfUptoRow.holds Try.pinned (OpenSpec.upto fnExactOrbitOfSpec)

/-- 'laws.FnExactFixedSum', WHERE WHAT IT READS IS OF BULK AT MOST 1048576: true; the input reads as it did. -/
def fnExactFixedSumUptoRow : OpenClaim := { program := "ytojkiajempdmfaa", sum := "5664e29355877feb160752f78a91b78c158c1661e3100cc06831ed0207e49afc", func := "loop.example/switchpuzzles/laws.FnExactFixedSum", spec := "fnExactFixedSum", apart := false, narrowed := true }
def FnExactFixedSumUptoSaid : Prop := fnExactFixedSumUptoRow.holds Try.pinned (OpenSpec.upto fnExactFixedSumSpec)

/-- 'laws.FnExactGroupAll', WHERE WHAT IT READS IS OF BULK AT MOST 1048576: true; the input reads as it did. -/
def fnExactGroupAllUptoRow : OpenClaim := { program := "ytojkiajempdmfaa", sum := "5664e29355877feb160752f78a91b78c158c1661e3100cc06831ed0207e49afc", func := "loop.example/switchpuzzles/laws.FnExactGroupAll", spec := "fnExactGroupAll", apart := false, narrowed := true }
def FnExactGroupAllUptoSaid : Prop := fnExactGroupAllUptoRow.holds Try.pinned (OpenSpec.upto fnExactGroupAllSpec)

end Rows
end Go.Proofs.Ytojkiajempdmfaa

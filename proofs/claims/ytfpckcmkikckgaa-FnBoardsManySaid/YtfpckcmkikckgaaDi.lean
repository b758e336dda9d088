/- The draws of two sides. -/
import Derived.Test.YtfpckcmkikckgaaRd
import Derived.IntWalk
namespace Go.Proofs.Ytfpckcmkikckgaa
open Go Go.RowKit

/-- Two numbers that a law has drawn. -/
def DrawI2 (w : World) (e : Ending) (w' : World) : Prop :=
  ∃ a b : Int, e = .returned (.tuple #[.int .i64 a, .int .i64 b]) ∧ (0 ≤ a ∧ a ≤ 20) ∧ (0 ≤ b ∧ b ≤ 20) ∧ Below w.heap.size w w'
theorem DrawI2.mk {w w' : World} {a b : Int} (ha : 0 ≤ a ∧ a ≤ 20) (hb : 0 ≤ b ∧ b ≤ 20) (hB : Below w.heap.size w w') : DrawI2 w (.returned (.tuple #[.int .i64 a, .int .i64 b])) w' := ⟨a, b, rfl, ha, hb, hB⟩

theorem drawBoardsMany_any (ao : Option Addr) (bs : List Int) (l c : Nat) (w : World) (hn : bs.length = l) (hlc : l ≤ c) (hcm : c ≤ 9223372036854775807) (hx : BytesAt w ao bs) (h8 : B8 bs) :
    Calls Try.prog 21 #[.slice ao l c] w (DrawI2 w) := by
  go_enter Try.func21, Try.ntmps21
  go_wp2_with fail
  refine (l20Open_any ao bs l c w hn hlc hcm hx h8).mono fun e w1 h => ?_
  obtain ⟨r, rfl, hr, B⟩ := h
  clear hx h8 hn
  have hrl := hr.lt
  go_wp2_with fail
  refine (pick_rdr r 5 w.heap.size 0 w1 hr (by omega)).mono fun e w2 hp => ?_
  obtain ⟨v0, rfl, a0, b0, _, _, hg, hr⟩ := hp
  have b0 := b0 (by omega)
  have B := below_grown B hg hrl.1
  clear hg
  go_wp2_with fail
  refine (pick_rdr r 4 w.heap.size 1 w2 hr (by omega)).mono fun e w3 hp => ?_
  obtain ⟨v1, rfl, a1, b1, _, _, hg, hr⟩ := hp
  have b1 := b1 (by omega)
  have B := below_grown B hg hrl.1
  clear hg
  go_wp2
  go_ret2
  exact DrawI2.mk (by omega) (by omega) B

end Go.Proofs.Ytfpckcmkikckgaa

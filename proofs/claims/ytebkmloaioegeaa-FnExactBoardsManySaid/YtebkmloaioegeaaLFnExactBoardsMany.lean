/- The walk of the law FnExactBoardsMany. -/
import Derived.Test.YtebkmloaioegeaaSw
namespace Go.Proofs.Ytebkmloaioegeaa
open Go Go.RowKit

set_option maxRecDepth 100000 in
set_option maxHeartbeats 4000000 in
theorem fnExactBoardsMany_walk (w : World) (p0 : Int) (_hp0 : -9223372036854775808 ≤ p0 ∧ p0 ≤ 9223372036854775807) (p1 : Int) (_hp1 : -9223372036854775808 ≤ p1 ∧ p1 ≤ 9223372036854775807) :
    Calls Try.prog 3 #[.int .i64 p0, .int .i64 p1] w fun e w' => e = .returned (.bool true) ∧ Below w.heap.size w w' := by
  have B := Below.refl w.heap.size w
  go_enter Try.func3, Try.ntmps3
  have hbb : (manyI p0 p1 != manyI p0 p1) = false := by simp
  go_wp2_with fail
  refine (specBoardsMany_any p0 p1 w).mono fun e w1 h => ?_
  obtain ⟨rfl, b⟩ := h
  have B := B.trans (b.mono B.size)
  clear b
  go_wp2_with fail
  refine (implBoardsMany_any p0 p1 w1).mono fun e w2 h => ?_
  obtain ⟨rfl, b⟩ := h
  have B := B.trans (b.mono B.size)
  clear b
  go_wp2_with fail
  go_ret
  exact ⟨rfl, B⟩

end Go.Proofs.Ytebkmloaioegeaa

/- The walk of the law FnExactMovesValid. -/
import Derived.Test.YthcghpcmmjnijaaMv
namespace Go.Proofs.Ythcghpcmmjnijaa
open Go Go.RowKit

set_option maxRecDepth 100000 in
set_option maxHeartbeats 1000000 in
theorem fnExactMovesValid_walk (w : World) (p0 : Int) (_hp0 : -9223372036854775808 ≤ p0 ∧ p0 ≤ 9223372036854775807) (ao1 : Option Addr) (rs1 : List (List Int)) (n1 c1 : Nat) (hn1 : rs1.length = n1) (hl1 : n1 ≤ 9223372036854775807) (hx1 : RowsAt w ao1 rs1) :
    Calls Try.prog 3 #[.int .i64 p0, .slice ao1 n1 c1] w fun e w' => e = .returned (.bool true) ∧ Below w.heap.size w w' := by
  have HN1 := hid hn1
  clear hn1
  go_enter Try.func3, Try.ntmps3
  go_wp2_with fail
  refine (szIntSS_any ao1 rs1 n1 c1 1048576 w HN1.out hl1 (by omega) (by omega) hx1).mono fun e w1 h => ?_
  obtain ⟨rfl, rfl⟩ := h
  by_cases hsz : szSS 1048576 rs1 < 0
  · have hd : decide (szSS 1048576 rs1 < 0) = true := decide_eq_true hsz
    go_wp2_with fail
    go_ret
    exact ⟨rfl, Below.refl _ _⟩
  have hd : decide (szSS 1048576 rs1 < 0) = false := decide_eq_false hsz
  have hle := szSS_le hsz
  rw [HN1.out] at hle
  have hcap : n1 ≤ 1048576 := by omega
  have HLS : Hid (∀ r ∈ rs1, r.length ≤ 1048576) := fun r hr => by have := hle.2 r hr; omega
  have hbb : (movesB p0 rs1 != movesB p0 rs1) = false := by simp
  clear hsz hle
  go_wp2_with fail
  refine (toIntSS_any ao1 rs1 n1 c1 w HN1.out hcap HLS.out hx1).mono fun e w1 h => ?_
  obtain ⟨rfl, t, b⟩ := h
  have B := b
  go_wp2_with fail
  refine (specMovesValid_any p0 _ rs1 n1 n1 w1 HN1.out hcap HLS.out t.at).mono fun e w2 h => ?_
  obtain ⟨rfl, b⟩ := h
  have B := B.trans (b.mono B.size)
  clear t b
  go_wp2_with fail
  refine (toIntSS_any ao1 rs1 n1 c1 w2 HN1.out hcap HLS.out (hx1.below B (Nat.le_refl _))).mono fun e w3 h => ?_
  obtain ⟨rfl, x1, b⟩ := h
  have B := B.trans (b.mono B.size)
  clear b
  go_wp2_with fail
  refine (implMovesValid_any p0 _ rs1 n1 n1 w3 HN1.out hcap HLS.out x1.at).mono fun e w4 h => ?_
  obtain ⟨rfl, rfl⟩ := h
  go_wp2_with fail
  refine (toIntSS_any ao1 rs1 n1 c1 w3 HN1.out hcap HLS.out (hx1.below B (Nat.le_refl _))).mono fun e w5 h => ?_
  obtain ⟨rfl, t, b⟩ := h
  have x1 := x1.below b (Nat.le_refl _)
  have B := B.trans (b.mono B.size)
  clear b
  go_wp2_with fail
  refine (eqIntSS_same _ _ rs1 n1 n1 n1 w5 HN1.out hcap x1.at t.at).mono fun e w6 h => ?_
  obtain ⟨rfl, hq⟩ := h
  have B := B.trans (hq.below _)
  clear hq t x1
  go_wp2_with fail
  go_ret
  exact ⟨rfl, B⟩

end Go.Proofs.Ythcghpcmmjnijaa

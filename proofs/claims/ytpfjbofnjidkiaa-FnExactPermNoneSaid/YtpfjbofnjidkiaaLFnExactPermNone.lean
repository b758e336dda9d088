/- The walk of the law FnExactPermNone. -/
import Derived.Test.YtpfjbofnjidkiaaPn
namespace Go.Proofs.Ytpfjbofnjidkiaa
open Go Go.RowKit

theorem length_noneL (p : Int) : (noneL p).length ≤ 5 := by
  by_cases h : 1 ≤ p ∧ p ≤ 5
  · rw [noneL_in h, length_iota]; omega
  · rw [noneL_out h]; simp

set_option maxRecDepth 100000 in
set_option maxHeartbeats 1000000 in
theorem fnExactPermNone_walk (w : World) (p : Int) (_hp : -9223372036854775808 ≤ p ∧ p ≤ 9223372036854775807) :
    Calls Try.prog 3 #[.int .i64 p] w fun e w' => e = .returned (.bool true) ∧ Below w.heap.size w w' := by
  obtain ⟨n, hn⟩ : ∃ n, (noneL p).length = n := ⟨_, rfl⟩
  have hl : n ≤ 5 := by rw [← hn]; exact length_noneL p
  have HN := hid hn
  clear hn
  have hself := eqL_self (noneL p)
  have hq0 : decide ((1 : Int) + n < 0) = false := decide_eq_false (by omega)
  have hq1 : ((1 : Int) + n != 1 + n) = false := by simp
  go_enter Try.func3, Try.ntmps3
  go_wp2_with fail
  refine (specPermNone_any p w).mono fun e w1 h => ?_
  obtain ⟨ao0, c0, rfl, o0, b0⟩ := h.to HN.out
  clear h
  go_wp2_with fail
  refine (implPermNone_any p w1).mono fun e w2 h => ?_
  obtain ⟨ao1, c1, rfl, o1, b1⟩ := h.to HN.out
  clear h
  have hs1 := b0.size
  have B := b0.trans (b1.mono b0.size)
  have ap := o0.apart o1 (Nat.le_refl _)
  have o0 := o0.below b1 (Nat.le_refl _)
  clear b0 b1
  go_wp2_with fail
  refine (eqIntS_any ao1 ao0 (noneL p) (noneL p) n n c1 c0 w2 HN.out HN.out (by omega) o1.ints o0.ints).mono fun e w3 h => ?_
  rw [hself] at h
  obtain ⟨rfl, hq⟩ := h
  have B := B.trans (hq.below _)
  have o0 := o0.qt hq
  have o1 := o1.qt hq
  clear hq
  go_wp2_with fail
  refine (markIntS_any ao1 (noneL p) n c1 w1.heap.size 1 w3 HN.out (by omega) (by omega) (by omega) o1).mono fun e w4 h => ?_
  obtain ⟨rfl, o1', hg⟩ := h
  have B := o1.belowKept B hg hs1
  have o0 := o0.kept hg ap
  clear o1 hg
  go_wp2_with fail
  refine (heldIntS_any ao1 n c1 1 w4 (by omega) (by omega) (by omega) o1'.ints).mono fun e w5 h => ?_
  obtain ⟨rfl, rfl⟩ := h
  go_wp2_with fail
  refine (implPermNone_any p w4).mono fun e w5 h => ?_
  obtain ⟨ao2, c2, rfl, o2, b2⟩ := h.to HN.out
  clear h
  have o0 := o0.below b2 (Nat.le_refl _)
  have o1' := o1'.below b2 (Nat.le_refl _)
  have B := B.trans (b2.mono B.size)
  clear b2
  go_wp2_with fail
  refine (eqIntS_any ao2 ao0 (noneL p) (noneL p) n n c2 c0 w5 HN.out HN.out (by omega) o2.ints o0.ints).mono fun e w6 h => ?_
  rw [hself] at h
  obtain ⟨rfl, hq⟩ := h
  have B := B.trans (hq.below _)
  have o1' := o1'.qt hq
  clear hq
  go_wp2_with fail
  refine (heldIntS_any ao1 n c1 1 w6 (by omega) (by omega) (by omega) o1'.ints).mono fun e w7 h => ?_
  obtain ⟨rfl, rfl⟩ := h
  go_wp2_with fail
  go_ret
  exact ⟨rfl, B⟩
end Go.Proofs.Ytpfjbofnjidkiaa

/- The walk of the law FnExactPermValid. -/
import Derived.Test.YtpfjbofnjidkiaaPv
namespace Go.Proofs.Ytpfjbofnjidkiaa
open Go Go.RowKit

set_option maxRecDepth 100000 in
set_option maxHeartbeats 1000000 in
theorem fnExactPermValid_walk (w : World) (ao : Option Addr) (xs : List Int) (n c : Nat) (hn : xs.length = n) (_hnc : n ≤ c) (_hc : c ≤ 9223372036854775807) (hx : IntsAt w ao xs) (_h6 : I64 xs) :
    Calls Try.prog 4 #[.slice ao n c] w fun e w' => e = .returned (.bool true) ∧ Below w.heap.size w w' := by
  have HN := hid hn
  clear hn
  by_cases hbig : 1048576 < n
  · have hd : decide ((1048576 : Int) < n) = true := decide_eq_true (by omega)
    go_enter Try.func4, Try.ntmps4
    go_wp2_with fail
    go_ret
    exact ⟨rfl, Below.refl _ _⟩
  have hd : decide ((1048576 : Int) < n) = false := decide_eq_false (by omega)
  have hself := eqL_self xs
  have hp : (permB xs != permB xs) = false := by simp
  go_enter Try.func4, Try.ntmps4
  go_wp2_with fail
  refine (toIntS_any ao xs n c w HN.out (by omega) hx).mono fun e w1 h => ?_
  obtain ⟨rfl, o1, B⟩ := h
  have hx1 := hx.below B (Nat.le_refl _)
  go_wp2_with fail
  refine (specPermValid_any _ xs n n w1 HN.out (by omega) (Nat.le_refl _) o1.ints).mono fun e w2 h => ?_
  obtain ⟨rfl, hq⟩ := h
  have hx2 := hx1.qt hq
  have B := B.trans (hq.below _)
  clear o1 hx1 hq
  go_wp2_with fail
  refine (toIntS_any ao xs n c w2 HN.out (by omega) hx2).mono fun e w3 h => ?_
  obtain ⟨rfl, o3, b3⟩ := h
  have hx3 := hx2.below b3 (Nat.le_refl _)
  have B := B.trans (b3.mono B.size)
  clear hx2 b3
  go_wp2_with fail
  refine (implPermValid_any _ xs n n w3 HN.out (by omega) o3.ints).mono fun e w4 h => ?_
  obtain ⟨rfl, rfl⟩ := h
  go_wp2_with fail
  refine (toIntS_any ao xs n c w3 HN.out (by omega) hx3).mono fun e w4 h => ?_
  obtain ⟨rfl, o4, b4⟩ := h
  have o3 := o3.below b4 (Nat.le_refl _)
  have B := B.trans (b4.mono B.size)
  clear hx3 b4
  go_wp2_with fail
  refine (eqIntS_any _ _ xs xs n n n n w4 HN.out HN.out (by omega) o3.ints o4.ints).mono fun e w5 h => ?_
  rw [hself] at h
  obtain ⟨rfl, hq⟩ := h
  have B := B.trans (hq.below _)
  go_wp2_with fail
  go_ret
  exact ⟨rfl, B⟩
end Go.Proofs.Ytpfjbofnjidkiaa

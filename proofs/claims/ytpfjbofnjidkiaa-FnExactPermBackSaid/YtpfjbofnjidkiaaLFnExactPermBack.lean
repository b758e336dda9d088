/- The walk of the law FnExactPermBack. -/
import Derived.Test.YtpfjbofnjidkiaaPb
namespace Go.Proofs.Ytpfjbofnjidkiaa
open Go Go.RowKit

set_option maxRecDepth 100000 in
set_option maxHeartbeats 2000000 in
theorem fnExactPermBack_walk (w : World) (ao0 : Option Addr) (xs0 : List Int) (n0 c0 : Nat) (hn0 : xs0.length = n0) (_hnc0 : n0 ≤ c0) (_hc0 : c0 ≤ 9223372036854775807) (hx0 : IntsAt w ao0 xs0) (_h60 : I64 xs0) :
    Calls Try.prog 8 #[.slice ao0 n0 c0] w fun e w' => e = .returned (.bool true) ∧ Below w.heap.size w w' := by
  have HN0 := hid hn0
  clear hn0
  by_cases hbig0 : 1048576 < n0
  · have hd0 : decide ((1048576 : Int) < n0) = true := decide_eq_true (by omega)
    go_enter Try.func8, Try.ntmps8
    go_wp2_with fail
    go_ret
    exact ⟨rfl, Below.refl _ _⟩
  have hd0 : decide ((1048576 : Int) < n0) = false := decide_eq_false (by omega)
  obtain ⟨N, hN⟩ : ∃ N, (backL xs0).length = N := ⟨_, rfl⟩
  have hNl : N ≤ 17592186044416 - 1048576 := by rw [← hN]; exact length_backL _
  have HL := hid hN
  clear hN
  have B := Below.refl w.heap.size w
  have hk0 : decide ((1 : Int) + n0 < 0) = false := decide_eq_false (by omega)
  have hm0 : decide ((1 : Int) + N < 0) = false := decide_eq_false (by omega)
  have hm1 : ((1 : Int) + N != 1 + N) = false := by simp
  go_enter Try.func8, Try.ntmps8
  go_wp2_with fail
  refine (toIntS_any ao0 xs0 n0 c0 w HN0.out (by omega) (hx0.below B (Nat.le_refl _))).mono fun e w1 h => ?_
  obtain ⟨rfl, t0, b⟩ := h
  have hs_w := B.size
  have B := B.trans (b.mono B.size)
  clear b
  go_wp2_with fail
  refine (specPermBack_any _ xs0 n0 n0 w1 HN0.out (by omega) (Nat.le_refl _) t0.ints).mono fun e w2 h => ?_
  obtain ⟨ao_o0, c_o0, rfl, o0, b⟩ := h.to HL.out
  clear h
  have hs_w1 := B.size
  have t0 := t0.below b (Nat.le_refl _)
  have B := B.trans (b.mono B.size)
  clear b
  clear t0
  go_wp2_with fail
  refine (toIntS_any ao0 xs0 n0 c0 w2 HN0.out (by omega) (hx0.below B (Nat.le_refl _))).mono fun e w3 h => ?_
  obtain ⟨rfl, x0, b⟩ := h
  have hs_w2 := B.size
  have ap_o0_x0 := o0.apart x0 (Nat.le_refl _)
  have o0 := o0.below b (Nat.le_refl _)
  have B := B.trans (b.mono B.size)
  clear b
  go_wp2_with fail
  refine (implPermBack_any _ xs0 n0 n0 w3 HN0.out (by omega) x0.ints).mono fun e w4 h => ?_
  obtain ⟨ao_g0, c_g0, rfl, g0, b⟩ := h.to HL.out
  clear h
  have hs_w3 := B.size
  have ap_o0_g0 := o0.apart g0 (Nat.le_refl _)
  have ap_g0_x0 := x0.apart' g0 (Nat.le_refl _)
  have o0 := o0.below b (Nat.le_refl _)
  have x0 := x0.below b (Nat.le_refl _)
  have B := B.trans (b.mono B.size)
  clear b
  go_wp2_with fail
  refine (eqIntS_any ao_g0 ao_o0 (backL xs0) (backL xs0) N N c_g0 c_o0 w4 HL.out HL.out (by omega) g0.ints o0.ints).mono fun e w5 h => ?_
  rw [eqL_self] at h
  obtain ⟨rfl, hq⟩ := h
  have B := B.trans (hq.below _)
  have o0 := o0.qt hq
  have x0 := x0.qt hq
  have g0 := g0.qt hq
  clear hq
  go_wp2_with fail
  refine (toIntS_any ao0 xs0 n0 c0 w5 HN0.out (by omega) (hx0.below B (Nat.le_refl _))).mono fun e w6 h => ?_
  obtain ⟨rfl, t0, b⟩ := h
  have hs_w5 := B.size
  have o0 := o0.below b (Nat.le_refl _)
  have x0 := x0.below b (Nat.le_refl _)
  have g0 := g0.below b (Nat.le_refl _)
  have B := B.trans (b.mono B.size)
  clear b
  go_wp2_with fail
  refine (eqIntS_any _ _ (xs0) (xs0) n0 n0 _ _ w6 HN0.out HN0.out (by omega) x0.ints t0.ints).mono fun e w7 h => ?_
  rw [eqL_self] at h
  obtain ⟨rfl, hq⟩ := h
  have B := B.trans (hq.below _)
  have o0 := o0.qt hq
  have x0 := x0.qt hq
  have g0 := g0.qt hq
  have t0 := t0.qt hq
  clear hq
  clear t0
  go_wp2_with fail
  refine (markIntS_any _ (xs0) n0 _ w2.heap.size 1 w7 HN0.out (by omega) (by omega) (by omega) x0).mono fun e w8 h => ?_
  obtain ⟨rfl, x0', hg⟩ := h
  have B := x0.belowKept B hg hs_w2
  have o0 := o0.kept hg ap_o0_x0
  have g0 := g0.kept hg ap_g0_x0
  clear x0 hg
  clear x0'
  go_wp2_with fail
  refine (eqIntS_any ao_g0 ao_o0 (backL xs0) (backL xs0) N N c_g0 c_o0 w8 HL.out HL.out (by omega) g0.ints o0.ints).mono fun e w9 h => ?_
  rw [eqL_self] at h
  obtain ⟨rfl, hq⟩ := h
  have B := B.trans (hq.below _)
  have o0 := o0.qt hq
  have g0 := g0.qt hq
  clear hq
  go_wp2_with fail
  refine (markIntS_any ao_g0 (backL xs0) N c_g0 w3.heap.size 1 w9 HL.out (by omega) (by omega) (by omega) g0).mono fun e w10 h => ?_
  obtain ⟨rfl, g0', hg⟩ := h
  have B := g0.belowKept B hg hs_w3
  have o0 := o0.kept hg ap_o0_g0
  clear g0 hg
  go_wp2_with fail
  refine (heldIntS_any ao_g0 N c_g0 1 w10 (by omega) (by omega) (by omega) g0'.ints).mono fun e w11 h => ?_
  obtain ⟨rfl, rfl⟩ := h
  go_wp2_with fail
  refine (toIntS_any ao0 xs0 n0 c0 w10 HN0.out (by omega) (hx0.below B (Nat.le_refl _))).mono fun e w12 h => ?_
  obtain ⟨rfl, t0, b⟩ := h
  have hs_w10 := B.size
  have o0 := o0.below b (Nat.le_refl _)
  have g0' := g0'.below b (Nat.le_refl _)
  have B := B.trans (b.mono B.size)
  clear b
  go_wp2_with fail
  refine (implPermBack_any _ xs0 n0 n0 w12 HN0.out (by omega) t0.ints).mono fun e w13 h => ?_
  obtain ⟨ao_h0, c_h0, rfl, h0, b⟩ := h.to HL.out
  clear h
  have hs_w12 := B.size
  have o0 := o0.below b (Nat.le_refl _)
  have g0' := g0'.below b (Nat.le_refl _)
  have t0 := t0.below b (Nat.le_refl _)
  have B := B.trans (b.mono B.size)
  clear b
  clear t0
  go_wp2_with fail
  refine (eqIntS_any ao_h0 ao_o0 (backL xs0) (backL xs0) N N c_h0 c_o0 w13 HL.out HL.out (by omega) h0.ints o0.ints).mono fun e w14 h => ?_
  rw [eqL_self] at h
  obtain ⟨rfl, hq⟩ := h
  have B := B.trans (hq.below _)
  have o0 := o0.qt hq
  have g0' := g0'.qt hq
  have h0 := h0.qt hq
  clear hq
  go_wp2_with fail
  refine (heldIntS_any ao_g0 N c_g0 1 w14 (by omega) (by omega) (by omega) g0'.ints).mono fun e w15 h => ?_
  obtain ⟨rfl, rfl⟩ := h
  go_wp2_with fail
  go_ret
  exact ⟨rfl, B⟩

end Go.Proofs.Ytpfjbofnjidkiaa

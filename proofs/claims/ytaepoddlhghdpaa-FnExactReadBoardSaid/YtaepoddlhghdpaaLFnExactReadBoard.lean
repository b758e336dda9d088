/- The walk of the law FnExactReadBoard. -/
import Derived.Test.YtaepoddlhghdpaaSd
import Derived.Test.YtaepoddlhghdpaaBd
namespace Go.Proofs.Ytaepoddlhghdpaa
open Go Go.RowKit

set_option maxRecDepth 100000 in
set_option maxHeartbeats 4000000 in
theorem fnExactReadBoard_walk (w : World) (s0 : ByteArray) (_hs0 : s0.size ≤ maxLen) :
    Calls Try.prog 4 #[.string s0] w fun e w' => e = .returned (.bool true) ∧ Below w.heap.size w w' := by
  have B := Below.refl w.heap.size w
  by_cases hbig0 : 1048576 < s0.size
  · have hd0 : decide ((1048576 : Int) < s0.size) = true := decide_eq_true (by omega)
    go_enter Try.func4, Try.ntmps4
    go_wp2_with fail
    go_ret
    exact ⟨rfl, B⟩
  have hd0 : decide ((1048576 : Int) < s0.size) = false := decide_eq_false (by omega)
  go_enter Try.func4, Try.ntmps4
  obtain ⟨N, hN⟩ : ∃ N, (rbL s0).length = N := ⟨_, rfl⟩
  have hNl : N ≤ 17592186044416 - 1048576 := by rw [← hN]; exact Nat.le_trans (length_rbL s0) (by omega)
  have HL := hid hN
  clear hN
  have hbb : (rdB s0 != rdB s0) = false := by simp
  have hm0 : decide ((1 : Int) + N < 0) = false := decide_eq_false (by omega)
  have hm1 : ((1 : Int) + N != 1 + N) = false := by simp
  go_wp2_with fail
  refine (specReadBoard_any s0 w (by omega)).mono fun e w1 h => ?_
  obtain ⟨ao_o0, c_o0, rfl, hc_o0, o0, b⟩ := h.to HL.out
  clear h
  have hs_o0 := B.size
  have B := B.trans (b.mono B.size)
  clear b
  have bk_o0 := Blk.new w1 #[.int .i64 (rbW s0), .slice ao_o0 N c_o0] 27
  have o0 := o0.alloc (.cells #[.int .i64 (rbW s0), .slice ao_o0 N c_o0] 27)
  have B := B.alloc B.size (.cells #[.int .i64 (rbW s0), .slice ao_o0 N c_o0] 27)
  have e_o0_0 := bk_o0.at 0 rfl
  have e_o0_1 := bk_o0.at 1 rfl
  go_wp2_with fail
  generalize (w1.alloc (.cells #[.int .i64 (rbW s0), .slice ao_o0 N c_o0] 27)) = w2 at *
  clear e_o0_0 e_o0_1
  refine (implReadBoard_any s0 w2 (by omega)).mono fun e w3 h => ?_
  obtain ⟨ao_g0, c_g0, rfl, hc_g0, g0, b⟩ := h.to HL.out
  clear h
  have ap_o0_g0 := o0.apart g0 (Nat.le_refl _)
  have ap_g0_o0 := o0.apart' g0 (Nat.le_refl _)
  have ne_o0_g0 := hid (g0.ne_blk bk_o0.lt)
  have hs_g0 := B.size
  have o0 := o0.below b (Nat.le_refl _)
  have bk_o0 := bk_o0.below b (Nat.le_refl _)
  have B := B.trans (b.mono B.size)
  clear b
  have ne_g0_g0 := hid g0.ne_new
  have bk_g0 := Blk.new w3 #[.int .i64 (rbW s0), .slice ao_g0 N c_g0] 27
  have o0 := o0.alloc (.cells #[.int .i64 (rbW s0), .slice ao_g0 N c_g0] 27)
  have g0 := g0.alloc (.cells #[.int .i64 (rbW s0), .slice ao_g0 N c_g0] 27)
  have bk_o0 := bk_o0.alloc (.cells #[.int .i64 (rbW s0), .slice ao_g0 N c_g0] 27)
  have B := B.alloc B.size (.cells #[.int .i64 (rbW s0), .slice ao_g0 N c_g0] 27)
  have e_o0_0 := bk_o0.at 0 rfl
  have e_o0_1 := bk_o0.at 1 rfl
  have e_g0_0 := bk_g0.at 0 rfl
  have e_g0_1 := bk_g0.at 1 rfl
  go_wp2_with fail
  generalize (w3.alloc (.cells #[.int .i64 (rbW s0), .slice ao_g0 N c_g0] 27)) = w4 at *
  clear e_o0_0 e_o0_1 e_g0_0 e_g0_1
  refine (eqBoard_any (rbW s0) (rbW s0) ao_g0 ao_o0 (rbL s0) (rbL s0) N N c_g0 c_o0 w4 HL.out HL.out (by omega) g0.ints o0.ints).mono fun e w5 h => ?_
  rw [eqBd_self] at h
  obtain ⟨rfl, b⟩ := h
  have o0 := o0.below b (Nat.le_refl _)
  have g0 := g0.below b (Nat.le_refl _)
  have bk_o0 := bk_o0.below b (Nat.le_refl _)
  have bk_g0 := bk_g0.below b (Nat.le_refl _)
  have B := B.trans (b.mono B.size)
  clear b
  have e_o0_0 := bk_o0.at 0 rfl
  have e_o0_1 := bk_o0.at 1 rfl
  have e_g0_0 := bk_g0.at 0 rfl
  have e_g0_1 := bk_g0.at 1 rfl
  go_wp2_with fail
  clear e_o0_0 e_o0_1 e_g0_0 e_g0_1
  refine (markBoard_any (rbW s0) ao_g0 (rbL s0) N c_g0 w2.heap.size 1 w5 HL.out (by omega) (by omega) (by omega) g0).mono fun e w6 h => ?_
  obtain ⟨rfl, g0', hg⟩ := h
  have B := g0.belowKept B hg hs_g0
  have o0 := o0.kept hg ap_o0_g0
  have bk_o0 := bk_o0.kept hg ne_o0_g0.out
  have bk_g0 := bk_g0.kept hg ne_g0_g0.out
  clear g0 hg
  have e_o0_0 := bk_o0.at 0 rfl
  have e_o0_1 := bk_o0.at 1 rfl
  have e_g0_0 := bk_g0.at 0 rfl
  have e_g0_1 := bk_g0.at 1 rfl
  go_wp2_with fail
  clear e_o0_0 e_o0_1 e_g0_0 e_g0_1
  refine (heldBoard_any (rbW s0) ao_g0 N c_g0 1 w6 (by omega) (by omega) (by omega) g0'.ints).mono fun e w7 h => ?_
  obtain ⟨rfl, b⟩ := h
  have o0 := o0.below b (Nat.le_refl _)
  have g0' := g0'.below b (Nat.le_refl _)
  have bk_o0 := bk_o0.below b (Nat.le_refl _)
  have bk_g0 := bk_g0.below b (Nat.le_refl _)
  have B := B.trans (b.mono B.size)
  clear b
  have e_o0_0 := bk_o0.at 0 rfl
  have e_o0_1 := bk_o0.at 1 rfl
  have e_g0_0 := bk_g0.at 0 rfl
  have e_g0_1 := bk_g0.at 1 rfl
  go_wp2_with fail
  clear e_o0_0 e_o0_1 e_g0_0 e_g0_1
  refine (implReadBoard_any s0 w7 (by omega)).mono fun e w8 h => ?_
  obtain ⟨ao_h0, c_h0, rfl, hc_h0, h0, b⟩ := h.to HL.out
  clear h
  have hs_h0 := B.size
  have o0 := o0.below b (Nat.le_refl _)
  have g0' := g0'.below b (Nat.le_refl _)
  have bk_o0 := bk_o0.below b (Nat.le_refl _)
  have bk_g0 := bk_g0.below b (Nat.le_refl _)
  have B := B.trans (b.mono B.size)
  clear b
  have bk_h0 := Blk.new w8 #[.int .i64 (rbW s0), .slice ao_h0 N c_h0] 27
  have o0 := o0.alloc (.cells #[.int .i64 (rbW s0), .slice ao_h0 N c_h0] 27)
  have g0' := g0'.alloc (.cells #[.int .i64 (rbW s0), .slice ao_h0 N c_h0] 27)
  have h0 := h0.alloc (.cells #[.int .i64 (rbW s0), .slice ao_h0 N c_h0] 27)
  have bk_o0 := bk_o0.alloc (.cells #[.int .i64 (rbW s0), .slice ao_h0 N c_h0] 27)
  have bk_g0 := bk_g0.alloc (.cells #[.int .i64 (rbW s0), .slice ao_h0 N c_h0] 27)
  have B := B.alloc B.size (.cells #[.int .i64 (rbW s0), .slice ao_h0 N c_h0] 27)
  have e_o0_0 := bk_o0.at 0 rfl
  have e_o0_1 := bk_o0.at 1 rfl
  have e_g0_0 := bk_g0.at 0 rfl
  have e_g0_1 := bk_g0.at 1 rfl
  have e_h0_0 := bk_h0.at 0 rfl
  have e_h0_1 := bk_h0.at 1 rfl
  go_wp2_with fail
  generalize (w8.alloc (.cells #[.int .i64 (rbW s0), .slice ao_h0 N c_h0] 27)) = w9 at *
  clear e_o0_0 e_o0_1 e_g0_0 e_g0_1 e_h0_0 e_h0_1
  refine (eqBoard_any (rbW s0) (rbW s0) ao_h0 ao_o0 (rbL s0) (rbL s0) N N c_h0 c_o0 w9 HL.out HL.out (by omega) h0.ints o0.ints).mono fun e w10 h => ?_
  rw [eqBd_self] at h
  obtain ⟨rfl, b⟩ := h
  have o0 := o0.below b (Nat.le_refl _)
  have g0' := g0'.below b (Nat.le_refl _)
  have h0 := h0.below b (Nat.le_refl _)
  have bk_o0 := bk_o0.below b (Nat.le_refl _)
  have bk_g0 := bk_g0.below b (Nat.le_refl _)
  have bk_h0 := bk_h0.below b (Nat.le_refl _)
  have B := B.trans (b.mono B.size)
  clear b
  clear h0
  clear o0
  have e_o0_0 := bk_o0.at 0 rfl
  have e_o0_1 := bk_o0.at 1 rfl
  have e_g0_0 := bk_g0.at 0 rfl
  have e_g0_1 := bk_g0.at 1 rfl
  have e_h0_0 := bk_h0.at 0 rfl
  have e_h0_1 := bk_h0.at 1 rfl
  go_wp2_with fail
  clear e_o0_0 e_o0_1 e_g0_0 e_g0_1 e_h0_0 e_h0_1
  refine (heldBoard_any (rbW s0) ao_g0 N c_g0 1 w10 (by omega) (by omega) (by omega) g0'.ints).mono fun e w11 h => ?_
  obtain ⟨rfl, b⟩ := h
  have g0' := g0'.below b (Nat.le_refl _)
  have bk_o0 := bk_o0.below b (Nat.le_refl _)
  have bk_g0 := bk_g0.below b (Nat.le_refl _)
  have bk_h0 := bk_h0.below b (Nat.le_refl _)
  have B := B.trans (b.mono B.size)
  clear b
  go_wp2_with fail
  go_ret
  exact ⟨rfl, B⟩

end Go.Proofs.Ytaepoddlhghdpaa

/- The walk of the law FnExactOrbitOf. -/
import Derived.Test.YtojkiajempdmfaaGz
import Derived.Test.YtojkiajempdmfaaGq
import Derived.Test.YtojkiajempdmfaaRm
namespace Go.Proofs.Ytojkiajempdmfaa
open Go Go.RowKit

set_option maxRecDepth 100000 in
set_option maxHeartbeats 4000000 in
theorem fnExactOrbitOf_walk (w : World) (p0 : Int) (_hp0 : -9223372036854775808 ≤ p0 ∧ p0 ≤ 9223372036854775807) (ao1 : Option Addr) (rs1 : List (List Int)) (n1 c1 : Nat) (hn1 : rs1.length = n1) (hl1 : n1 ≤ 9223372036854775807) (hx1 : RowsAt w ao1 rs1) (p2 : Int) (_hp2 : -9223372036854775808 ≤ p2 ∧ p2 ≤ 9223372036854775807) :
    Calls Try.prog 4 #[.int .i64 p0, .slice ao1 n1 c1, .int .i64 p2] w fun e w' => e = .returned (.bool true) ∧ Below w.heap.size w w' := by
  have HN1 := hid hn1
  clear hn1
  have B := Below.refl w.heap.size w
  go_enter Try.func4, Try.ntmps4
  go_wp2_with fail
  refine (szIntSS_any ao1 rs1 n1 c1 1048576 w HN1.out hl1 (by omega) (by omega) (hx1.below B (Nat.le_refl _))).mono fun e w1 h => ?_
  obtain ⟨rfl, rfl⟩ := h
  by_cases hsz : szSS 1048576 rs1 < 0
  · have hd : decide (szSS 1048576 rs1 < 0) = true := decide_eq_true hsz
    go_wp2_with fail
    go_ret
    exact ⟨rfl, B⟩
  have hd : decide (szSS 1048576 rs1 < 0) = false := decide_eq_false hsz
  have hle := szSS_le hsz
  have hsu := szSS_sum hsz
  rw [HN1.out] at hle hsu
  have hcap1 : n1 ≤ 1048576 := by omega
  have HLS1 : Hid (∀ r ∈ rs1, r.length ≤ 1048576) := fun r hr => by have := hle.2 r hr; omega
  obtain ⟨S1, hS⟩ : ∃ S, sumLen rs1 = S := ⟨_, rfl⟩
  have HS1 := hid hS
  rw [hS] at hsu
  have HSM1 : Hid (sumLen rs1 ≤ 1048576) := by unfold Hid; omega
  have hSc1 : S1 ≤ 1048576 := by omega
  clear hsz hle hsu hS
  obtain ⟨N, hN⟩ : ∃ N, (orbR p0 rs1 p2).length = N := ⟨_, rfl⟩
  have hNl : N ≤ 17592186044416 - 1048576 := by rw [← hN]; exact length_orbR _ _ _
  have HL := hid hN
  clear hN
  have hk0 : decide ((1 : Int) + S1 < 0) = false := decide_eq_false (by omega)
  have hm0 : decide ((1 : Int) + N < 0) = false := decide_eq_false (by omega)
  have hm1 : ((1 : Int) + N != 1 + N) = false := by simp
  go_wp2_with fail
  refine (toIntSS_any ao1 rs1 n1 c1 w HN1.out hcap1 HLS1.out (hx1.below B (Nat.le_refl _))).mono fun e w2 h => ?_
  obtain ⟨rfl, t1, b⟩ := h
  have t1 := t1.toIn
  have B := B.trans (b.mono B.size)
  clear b
  go_wp2_with fail
  refine (specOrbitOf_any p0 p2 (some ⟨w.heap.size, 0, none⟩) rs1 n1 n1 w2 HN1.out hcap1 HLS1.out t1.at).mono fun e w3 h => ?_
  obtain ⟨ao_o0, c_o0, rfl, o0, b⟩ := h.to HL.out
  clear h
  have hs_o0 := B.size
  have t1 := t1.below b (Nat.le_refl _)
  have B := B.trans (b.mono B.size)
  clear b
  clear t1
  go_wp2_with fail
  refine (toIntSS_any ao1 rs1 n1 c1 w3 HN1.out hcap1 HLS1.out (hx1.below B (Nat.le_refl _))).mono fun e w4 h => ?_
  obtain ⟨rfl, x1, b⟩ := h
  have x1 := x1.toIn
  have rk_o0_x1 := hid (o0.old w4.heap.size)
  have hs_x1 := B.size
  have le_x1 := Nat.le_refl w4.heap.size
  have o0 := o0.below b (Nat.le_refl _)
  have B := B.trans (b.mono B.size)
  clear b
  go_wp2_with fail
  refine (implOrbitOf_any p0 p2 (some ⟨w3.heap.size, 0, none⟩) rs1 n1 n1 w4 HN1.out hcap1 HLS1.out x1.at).mono fun e w5 h => ?_
  obtain ⟨ao_g0, c_g0, rfl, g0, b⟩ := h.to HL.out
  clear h
  have rk_g0_x1 := hid (g0.fresher w3.heap.size le_x1)
  have le_x1 := Nat.le_trans le_x1 b.size
  have ap_o0_g0 := o0.apart g0 (Nat.le_refl _)
  have ap_g0_o0 := o0.apart' g0 (Nat.le_refl _)
  have hs_g0 := B.size
  have o0 := o0.below b (Nat.le_refl _)
  have x1 := x1.below b (Nat.le_refl _)
  have B := B.trans (b.mono B.size)
  clear b
  go_wp2_with fail
  refine (eqIntS_any ao_g0 ao_o0 (orbR p0 rs1 p2) (orbR p0 rs1 p2) N N c_g0 c_o0 w5 HL.out HL.out (by omega) g0.ints o0.ints).mono fun e w6 h => ?_
  rw [eqL_self] at h
  obtain ⟨rfl, hq⟩ := h
  have le_x1 := Nat.le_trans le_x1 (hq.below 0).size
  have B := B.trans (hq.below _)
  have o0 := o0.qt hq
  have x1 := x1.qt hq
  have g0 := g0.qt hq
  clear hq
  go_wp2_with fail
  refine (toIntSS_any ao1 rs1 n1 c1 w6 HN1.out hcap1 HLS1.out (hx1.below B (Nat.le_refl _))).mono fun e w7 h => ?_
  obtain ⟨rfl, t1, b⟩ := h
  have t1 := t1.toIn
  have le_x1 := Nat.le_trans le_x1 b.size
  have o0 := o0.below b (Nat.le_refl _)
  have x1 := x1.below b (Nat.le_refl _)
  have g0 := g0.below b (Nat.le_refl _)
  have B := B.trans (b.mono B.size)
  clear b
  go_wp2_with fail
  refine (eqIntSS_same _ _ rs1 n1 n1 n1 w7 HN1.out hcap1 x1.at t1.at).mono fun e w8 h => ?_
  obtain ⟨rfl, hq⟩ := h
  have le_x1 := Nat.le_trans le_x1 (hq.below 0).size
  have B := B.trans (hq.below _)
  have o0 := o0.qt hq
  have x1 := x1.qt hq
  have g0 := g0.qt hq
  have t1 := t1.qt hq
  clear hq
  clear t1
  go_wp2_with fail
  refine (markIntSS_any rs1 n1 w3.heap.size w3.heap.size w4.heap.size 1 w8 HN1.out hcap1 HSM1.out (by omega) (by omega) x1).mono fun e w9 h => ?_
  rw [HS1.out] at h
  obtain ⟨rfl, hR⟩ := h
  have B := B.trans (hR.below (Nat.le_succ_of_le hs_x1) B.size)
  have o0 := o0.rng hR rk_o0_x1.out
  have g0 := g0.rng hR rk_g0_x1.out
  clear x1 hR le_x1
  go_wp2_with fail
  refine (eqIntS_any ao_g0 ao_o0 (orbR p0 rs1 p2) (orbR p0 rs1 p2) N N c_g0 c_o0 w9 HL.out HL.out (by omega) g0.ints o0.ints).mono fun e w10 h => ?_
  rw [eqL_self] at h
  obtain ⟨rfl, hq⟩ := h
  have B := B.trans (hq.below _)
  have o0 := o0.qt hq
  have g0 := g0.qt hq
  clear hq
  go_wp2_with fail
  refine (markIntS_any ao_g0 (orbR p0 rs1 p2) N c_g0 w4.heap.size 1 w10 HL.out (by omega) (by omega) (by omega) g0).mono fun e w11 h => ?_
  obtain ⟨rfl, g0', hg⟩ := h
  have B := g0.belowKept B hg hs_g0
  have o0 := o0.kept hg ap_o0_g0
  clear g0 hg
  go_wp2_with fail
  refine (heldIntS_any ao_g0 N c_g0 1 w11 (by omega) (by omega) (by omega) g0'.ints).mono fun e w12 h => ?_
  obtain ⟨rfl, rfl⟩ := h
  go_wp2_with fail
  refine (toIntSS_any ao1 rs1 n1 c1 w11 HN1.out hcap1 HLS1.out (hx1.below B (Nat.le_refl _))).mono fun e w13 h => ?_
  obtain ⟨rfl, t1, b⟩ := h
  have t1 := t1.toIn
  have o0 := o0.below b (Nat.le_refl _)
  have g0' := g0'.below b (Nat.le_refl _)
  have B := B.trans (b.mono B.size)
  clear b
  go_wp2_with fail
  refine (implOrbitOf_any p0 p2 (some ⟨w11.heap.size, 0, none⟩) rs1 n1 n1 w13 HN1.out hcap1 HLS1.out t1.at).mono fun e w14 h => ?_
  obtain ⟨ao_h0, c_h0, rfl, h0, b⟩ := h.to HL.out
  clear h
  have hs_h0 := B.size
  have o0 := o0.below b (Nat.le_refl _)
  have g0' := g0'.below b (Nat.le_refl _)
  have t1 := t1.below b (Nat.le_refl _)
  have B := B.trans (b.mono B.size)
  clear b
  clear t1
  go_wp2_with fail
  refine (eqIntS_any ao_h0 ao_o0 (orbR p0 rs1 p2) (orbR p0 rs1 p2) N N c_h0 c_o0 w14 HL.out HL.out (by omega) h0.ints o0.ints).mono fun e w15 h => ?_
  rw [eqL_self] at h
  obtain ⟨rfl, hq⟩ := h
  have B := B.trans (hq.below _)
  have o0 := o0.qt hq
  have g0' := g0'.qt hq
  have h0 := h0.qt hq
  clear hq
  clear h0
  clear o0
  go_wp2_with fail
  refine (heldIntS_any ao_g0 N c_g0 1 w15 (by omega) (by omega) (by omega) g0'.ints).mono fun e w16 h => ?_
  obtain ⟨rfl, rfl⟩ := h
  go_wp2_with fail
  go_ret
  exact ⟨rfl, B⟩

end Go.Proofs.Ytojkiajempdmfaa

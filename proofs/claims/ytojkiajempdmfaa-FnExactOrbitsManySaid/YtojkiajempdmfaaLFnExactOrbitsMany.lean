/- The walk of the law FnExactOrbitsMany. -/
import Derived.Test.YtojkiajempdmfaaGt
import Derived.Test.YtojkiajempdmfaaRm
namespace Go.Proofs.Ytojkiajempdmfaa
open Go Go.RowKit

set_option maxRecDepth 100000 in
set_option maxHeartbeats 4000000 in
theorem fnExactOrbitsMany_walk (w : World) (p0 : Int) (_hp0 : -9223372036854775808 ≤ p0 ∧ p0 ≤ 9223372036854775807) (ao1 : Option Addr) (rs1 : List (List Int)) (n1 c1 : Nat) (hn1 : rs1.length = n1) (hl1 : n1 ≤ 9223372036854775807) (hx1 : RowsAt w ao1 rs1) :
    Calls Try.prog 3 #[.int .i64 p0, .slice ao1 n1 c1] w fun e w' => e = .returned (.bool true) ∧ Below w.heap.size w w' := by
  have HN1 := hid hn1
  clear hn1
  have B := Below.refl w.heap.size w
  go_enter Try.func3, Try.ntmps3
  go_wp2_with fail
  refine (szIntSS_any ao1 rs1 n1 c1 1048576 w HN1.out hl1 (by omega) (by omega) (hx1.below B (Nat.le_refl _))).mono fun e w1 h => ?_
  obtain ⟨rfl, rfl⟩ := h
  by_cases hsz : szSS 1048576 rs1 < 0
  · have hd : decide (szSS 1048576 rs1 < 0) = true := decide_eq_true hsz
    go_wp2_with fail
    go_ret
    exact ⟨rfl, B⟩
  have hd : decide (szSS 1048576 rs1 < 0) = false := decide_eq_false hsz
  have hle := szSS_le hsz
  have hsu := szSS_sum hsz
  rw [HN1.out] at hle hsu
  have hcap1 : n1 ≤ 1048576 := by omega
  have HLS1 : Hid (∀ r ∈ rs1, r.length ≤ 1048576) := fun r hr => by have := hle.2 r hr; omega
  obtain ⟨S1, hS⟩ : ∃ S, sumLen rs1 = S := ⟨_, rfl⟩
  have HS1 := hid hS
  rw [hS] at hsu
  have HSM1 : Hid (sumLen rs1 ≤ 1048576) := by unfold Hid; omega
  have hSc1 : S1 ≤ 1048576 := by omega
  clear hsz hle hsu hS
  have hbb : (orbsI p0 rs1 != orbsI p0 rs1) = false := by simp
  go_wp2_with fail
  refine (toIntSS_any ao1 rs1 n1 c1 w HN1.out hcap1 HLS1.out (hx1.below B (Nat.le_refl _))).mono fun e w2 h => ?_
  obtain ⟨rfl, t1, b⟩ := h
  have t1 := t1.toIn
  have B := B.trans (b.mono B.size)
  clear b
  go_wp2_with fail
  refine (specOrbitsMany_any p0 (some ⟨w.heap.size, 0, none⟩) rs1 n1 n1 w2 HN1.out hcap1 HLS1.out t1.at).mono fun e w3 h => ?_
  obtain ⟨rfl, b⟩ := h
  have t1 := t1.below b (Nat.le_refl _)
  have B := B.trans (b.mono B.size)
  clear b
  clear t1
  go_wp2_with fail
  refine (toIntSS_any ao1 rs1 n1 c1 w3 HN1.out hcap1 HLS1.out (hx1.below B (Nat.le_refl _))).mono fun e w4 h => ?_
  obtain ⟨rfl, x1, b⟩ := h
  have x1 := x1.toIn
  have B := B.trans (b.mono B.size)
  clear b
  go_wp2_with fail
  refine (implOrbitsMany_any p0 (some ⟨w3.heap.size, 0, none⟩) rs1 n1 n1 w4 HN1.out hcap1 HLS1.out x1.at).mono fun e w5 h => ?_
  obtain ⟨rfl, b⟩ := h
  have x1 := x1.below b (Nat.le_refl _)
  have B := B.trans (b.mono B.size)
  clear b
  go_wp2_with fail
  refine (toIntSS_any ao1 rs1 n1 c1 w5 HN1.out hcap1 HLS1.out (hx1.below B (Nat.le_refl _))).mono fun e w6 h => ?_
  obtain ⟨rfl, t1, b⟩ := h
  have t1 := t1.toIn
  have x1 := x1.below b (Nat.le_refl _)
  have B := B.trans (b.mono B.size)
  clear b
  go_wp2_with fail
  refine (eqIntSS_same _ _ rs1 n1 n1 n1 w6 HN1.out hcap1 x1.at t1.at).mono fun e w7 h => ?_
  obtain ⟨rfl, hq⟩ := h
  have B := B.trans (hq.below _)
  have x1 := x1.qt hq
  have t1 := t1.qt hq
  clear hq
  clear t1
  go_wp2_with fail
  go_ret
  exact ⟨rfl, B⟩

end Go.Proofs.Ytojkiajempdmfaa

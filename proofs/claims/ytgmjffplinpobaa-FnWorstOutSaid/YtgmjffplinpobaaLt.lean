/- Plain laws for OutBy: presses add up; quiet sets have an even number of points. -/
import Derived.Test.YtgmjffplinpobaaLn
namespace Go.Proofs.Ytgmjffplinpobaa
open Go Go.RowKit

theorem prs_xor (xs : List Int) (s t : Nat) : ∀ k, prs xs (s ^^^ t) k = prs xs s k ^^^ prs xs t k
  | 0 => by simp [prs]
  | k + 1 => by
    have ih := prs_xor xs s t k
    have hb := Nat.testBit_xor (x := s) (y := t) (i := k)
    cases h1 : s.testBit k <;> cases h2 : t.testBit k <;> rw [h1, h2] at hb
    · rw [prs_not hb, prs_not h1, prs_not h2, ih]
    · rw [prs_in hb, prs_not h1, prs_in h2, ih, Nat.xor_assoc]
    · rw [prs_in hb, prs_in h1, prs_not h2, ih, Nat.xor_assoc, Nat.xor_assoc, Nat.xor_comm (row xs k)]
    · rw [prs_not hb, prs_in h1, prs_in h2, ih]
      rw [Nat.xor_assoc, Nat.xor_comm (row xs k), Nat.xor_assoc, Nat.xor_self, Nat.xor_zero]
theorem press_xor (xs : List Int) (s t : Nat) : press xs (s ^^^ t) = press xs s ^^^ press xs t := prs_xor xs s t _

theorem GrOk.row_diag {xs : List Int} (h : GrOk xs) {k : Nat} (hk : k < xs.length) : (row xs k).testBit k = true := by
  unfold row
  rw [Nat.testBit_xor, (h.rows k hk).2.2, Nat.testBit_two_pow_self]; rfl
theorem ones_bit {n k : Nat} (h : k < n) : (2 ^ n - 1).testBit k = true := by
  rw [Nat.testBit_two_pow_sub_one]; exact decide_eq_true h
/-- The form of a symmetric table with ones on its diagonal. -/
theorem GrOk.quad {xs : List Int} (h : GrOk xs) (q : Nat) : ∀ k, k ≤ xs.length → dotN q (prs xs q k) k = dotN q (2 ^ xs.length - 1) k
  | 0, _ => rfl
  | k + 1, hk => by
    have ih := h.quad q k (by omega)
    have h1 := h.prs_bit q (k := k) (by omega) k (by omega)
    have h2 := h.row_diag (k := k) (by omega)
    rw [dotN, dotN, ones_bit (show k < xs.length by omega), ← ih]
    cases hb : q.testBit k with
    | false => rw [prs_not hb]; simp
    | true =>
      rw [prs_in hb, dotN_xor, Nat.testBit_xor, h1, h2]
      cases dotN q (row xs k) k <;> cases dotN q (prs xs q k) k <;> rfl
theorem GrOk.quiet_even {xs : List Int} (h : GrOk xs) {q : Nat} (hq : press xs q = 0) : dot q (2 ^ xs.length - 1) = false := by
  have h1 := h.quad q xs.length (Nat.le_refl _)
  have hlt : 2 ^ xs.length - 1 < 2 ^ xs.length := by have := Nat.one_le_two_pow (n := xs.length); omega
  rw [dot_at h.max hlt, ← h1]
  rw [show prs xs q xs.length = press xs q from rfl, hq, dotN_zero]
theorem pc_and_ones {n q : Nat} (_hn : n ≤ 9) (hq : q < 2 ^ n) : q &&& (2 ^ n - 1) = q := by
  rw [Nat.and_two_pow_sub_one_eq_mod]; exact Nat.mod_eq_of_lt hq
/-- A quiet set has an even number of points. -/
theorem GrOk.quiet_pc {xs : List Int} (h : GrOk xs) {q : Nat} (hq : press xs q = 0) (hl : q < 2 ^ xs.length) : pc q % 2 = 0 := by
  have h512 := pow9 h.max
  have h1 := h.quiet_even hq
  have h2 := evn_dot (q := q) (L := 2 ^ xs.length - 1) (by omega)
  rw [h1, evn, pc_and_ones h.max hl] at h2
  simpa using h2
theorem setB_ones {xs : List Int} (h : GrOk xs) : setB xs ((2 ^ xs.length - 1 : Nat) : Int) = true := by
  have := Nat.one_le_two_pow (n := xs.length)
  rw [setB_iff]
  generalize 2 ^ xs.length = P at *
  exact ⟨h, by omega, by omega⟩
/-- All lights can be put out. -/
theorem out_ones {xs : List Int} (h : GrOk xs) : 0 ≤ outI xs ((2 ^ xs.length - 1 : Nat) : Int) := by
  have := Nat.one_le_two_pow (n := xs.length)
  rw [out_iff (setB_ones h), h.dual (by omega)]
  intro q _ hq
  exact h.quiet_even hq
theorem out_neg {xs : List Int} {L : Int} (h : ¬ 0 ≤ outI xs L) : outI xs L = -1 := by
  cases hg : setB xs L with
  | false => exact outI_out hg
  | true =>
    rw [outI_in hg] at h ⊢
    have := (bst_rng xs L (2 ^ xs.length)).1
    omega
/-- The found set. -/
theorem out_some {xs : List Int} {L : Int} (hg : setB xs L = true) (h : 0 ≤ outI xs L) : ∃ b : Nat, outI xs L = b ∧ b < 2 ^ xs.length ∧ (press xs b : Int) = L ∧ ∀ q : Nat, q < 2 ^ xs.length → press xs q = 0 → pc b ≤ pc (b ^^^ q) := by
  rw [outI_in hg] at h ⊢
  obtain ⟨h1, h2⟩ := bst_spec xs L (2 ^ xs.length)
  have hr := (bst_rng xs L (2 ^ xs.length)).2
  obtain ⟨b, hb⟩ := Int.eq_ofNat_of_zero_le h
  rw [hb] at h h1 h2 hr ⊢
  rw [Int.toNat_natCast] at h1 h2
  have hlt : b < 2 ^ xs.length := by generalize 2 ^ xs.length = P at *; omega
  refine ⟨b, rfl, hlt, h1 h, fun q hq hp => ?_⟩
  refine (h2 (b ^^^ q) (Nat.xor_lt_two_pow hlt hq) ?_).2
  rw [press_xor, hp, Nat.xor_zero]; exact h1 h

end Go.Proofs.Ytgmjffplinpobaa

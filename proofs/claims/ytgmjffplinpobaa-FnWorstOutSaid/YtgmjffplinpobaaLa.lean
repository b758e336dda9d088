/- Plain: bits of small sets, how many there are. -/
import Derived.Test.YtgmjffplinpobaaBits
namespace Go.Proofs.Ytgmjffplinpobaa
open Go Go.RowKit

/-- How many bits below 2^f a number has. -/
def pcF : Nat → Nat → Nat
  | 0, _ => 0
  | f + 1, m => m % 2 + pcF f (m / 2)
def pc (m : Nat) : Nat := pcF 10 m
theorem pc_pred : ∀ m, m < 1024 → 0 < m → pc (m &&& (m - 1)) + 1 = pc m := by decide +kernel
theorem and_pred_lt : ∀ m, m < 1024 → 0 < m → m &&& (m - 1) < m := by decide +kernel
theorem pcF_half : ∀ f m, m < 2 ^ f → pcF (f + 1) m = pcF f m
  | 0, m, h => by have : m = 0 := by omega
                  subst this; rfl
  | f + 1, m, h => by
    show m % 2 + pcF (f + 1) (m / 2) = m % 2 + pcF f (m / 2)
    rw [pcF_half f (m / 2) (by rw [Nat.pow_succ] at h; omega)]
theorem pc_half {m : Nat} (h : m < 1024) : pc m = m % 2 + pc (m / 2) := by
  show m % 2 + pcF 9 (m / 2) = _
  rw [pc, pcF_half 9 (m / 2) (by show m / 2 < 512; omega)]
theorem pc_zero : pc 0 = 0 := by decide
theorem pcF_le : ∀ f m, pcF f m ≤ f
  | 0, _ => Nat.le_refl _
  | f + 1, m => by have := pcF_le f (m / 2); show m % 2 + pcF f (m / 2) ≤ f + 1; omega
theorem pc_le (m : Nat) : pc m ≤ 10 := pcF_le 10 m

/-- A bit as a number. -/
def bitN (m k : Nat) : Nat := m / 2 ^ k % 2
theorem bitN_test (m k : Nat) : bitN m k = (m.testBit k).toNat := by
  unfold bitN
  rw [Nat.testBit_eq_decide_div_mod_eq]
  by_cases h : m / 2 ^ k % 2 = 1
  · simp [h]
  · simp [h]; omega
theorem bitN_le (m k : Nat) : bitN m k ≤ 1 := by unfold bitN; omega
theorem bitN_one (m k : Nat) : (bitN m k == 1) = m.testBit k := by
  rw [bitN_test]; cases m.testBit k <;> rfl

theorem mod_pow_step (m k : Nat) : m % 2 ^ (k + 1) = m % 2 ^ k + 2 ^ k * bitN m k := Nat.mod_pow_succ
theorem bitN_and (a b k : Nat) : bitN (a &&& b) k = bitN a k * bitN b k := by
  rw [bitN_test, bitN_test, bitN_test, Nat.testBit_and]
  cases a.testBit k <;> cases b.testBit k <;> rfl

theorem bitN_xor (a b k : Nat) : bitN (a ^^^ b) k = (bitN a k + bitN b k) % 2 := by
  rw [bitN_test, bitN_test, bitN_test, Nat.testBit_xor]
  cases a.testBit k <;> cases b.testBit k <;> rfl

/-- A sum is what is in one and twice what is in both. -/
theorem add_xor (a : Nat) : ∀ b, a + b = (a ^^^ b) + 2 * (a &&& b) := by
  induction a using Nat.strongRecOn with
  | ind a ih =>
    intro b
    by_cases h : a = 0
    · subst h; simp
    · have h1 := ih (a / 2) (by omega) (b / 2)
      have x1 : (a ^^^ b) / 2 = (a / 2) ^^^ (b / 2) := Nat.xor_div_two
      have x2 : (a &&& b) / 2 = (a / 2) &&& (b / 2) := Nat.and_div_two
      rw [← x1, ← x2] at h1
      have x3 : (a ^^^ b) % 2 = (a % 2 + b % 2) % 2 := by
        have := bitN_xor a b 0
        unfold bitN at this
        simpa using this
      have x4 : (a &&& b) % 2 = a % 2 * (b % 2) := by
        have := bitN_and a b 0
        unfold bitN at this
        simpa using this
      have ha : a % 2 = 0 ∨ a % 2 = 1 := by omega
      have hb : b % 2 = 0 ∨ b % 2 = 1 := by omega
      rcases ha with ha | ha <;> rcases hb with hb | hb <;> rw [ha, hb] at x3 x4 <;> omega
theorem xor_sub (a b : Nat) : (a ^^^ b : Nat) = a + b - 2 * (a &&& b) := by have := add_xor a b; omega

/-- How many of the bits 0 .. j - 1 are set. -/
def pcT (m : Nat) : Nat → Nat
  | 0 => 0
  | j + 1 => pcT m j + bitN m j
theorem pcT_ten : ∀ m, m < 1024 → pcT m 10 = pc m := by decide +kernel
theorem pcT_on {m : Nat} (h : m < 1024) : ∀ d, pcT m (10 + d) = pc m
  | 0 => pcT_ten m h
  | d + 1 => by
    have h1 : m < 2 ^ (10 + d) := Nat.lt_of_lt_of_le h (Nat.pow_le_pow_right (by decide) (by omega) : 2 ^ 10 ≤ 2 ^ (10 + d))
    show pcT m (10 + d) + bitN m (10 + d) = pc m
    rw [pcT_on h d, bitN, Nat.div_eq_of_lt h1]; rfl
theorem pcT_forty {m : Nat} (h : m < 1024) : pcT m 40 = pc m := pcT_on h 30
theorem pcT_le (m : Nat) : ∀ j, pcT m j ≤ j
  | 0 => Nat.le_refl _
  | j + 1 => by have := pcT_le m j; have := bitN_le m j; show pcT m j + bitN m j ≤ j + 1; omega

/-- Spellings of the walk. -/
theorem shr_tmod (m k : Nat) : ((m : Int) / 2 ^ k).tmod 2 = (bitN m k : Nat) := by
  have h1 : ((m : Int) / 2 ^ k) = ((m / 2 ^ k : Nat) : Int) := by simp
  rw [h1, bitN]
  generalize m / 2 ^ k = x
  rw [Int.tmod_eq_emod_of_nonneg (by omega)]; omega
theorem shr_test (m k : Nat) : (((m : Int) / 2 ^ k).tmod 2 == 1) = m.testBit k := by
  rw [shr_tmod, ← bitN_one]
  have h := bitN_le m k
  generalize bitN m k = x at *
  rcases (show x = 0 ∨ x = 1 by omega) with rfl | rfl <;> rfl

end Go.Proofs.Ytgmjffplinpobaa

/- The walks of placesFar, TilesFar and FreeFar, the program's and the reference's. -/
import Derived.Test.YtaepoddlhghdpaaTo
namespace Go.Proofs.Ytaepoddlhghdpaa
open Go Go.RowKit

/-- How far two places are from each other, by rows and by columns. -/
def farI (wide a b : Int) : Int := max (a / wide - b / wide) (b / wide - a / wide) + max (a % wide - b % wide) (b % wide - a % wide)

theorem mod_le {a wide : Int} (ha : 0 ≤ a) : a % wide ≤ a := by
  have h := Int.emod_add_mul_ediv a wide
  by_cases hw : 0 < wide
  · have h2 : 0 ≤ a / wide := Int.ediv_nonneg ha (by omega)
    have h3 : 0 ≤ wide * (a / wide) := Int.mul_nonneg (by omega) h2
    omega
  · by_cases h0 : wide = 0
    · subst h0; simp
    · have h4 := Int.emod_neg a wide
      have h2 : 0 ≤ a / (-wide) := Int.ediv_nonneg ha (by omega)
      have h3 : 0 ≤ (-wide) * (a / (-wide)) := Int.mul_nonneg (by omega) h2
      have h5 := Int.emod_add_mul_ediv a (-wide)
      rw [h4] at h5
      omega

theorem farI_bounds {wide a b : Int} (hw : 1 ≤ wide) (ha : 0 ≤ a) (hb : 0 ≤ b) : 0 ≤ farI wide a b ∧ farI wide a b ≤ 2 * (a + b) := by
  have h1 := Int.ediv_nonneg ha (show 0 ≤ wide by omega)
  have h2 := Int.ediv_le_self wide ha
  have h3 := Int.ediv_nonneg hb (show 0 ≤ wide by omega)
  have h4 := Int.ediv_le_self wide hb
  have h5 := Int.emod_nonneg a (show wide ≠ 0 by omega)
  have h6 := mod_le (wide := wide) ha
  have h7 := Int.emod_nonneg b (show wide ≠ 0 by omega)
  have h8 := mod_le (wide := wide) hb
  unfold farI
  omega

theorem val_int {a b : Int} (h : a = b) : Value.int .i64 a = .int .i64 b := by rw [h]

/-- The sum over the first k places. -/
def tfTo (wide : Int) (xs : List Int) : Nat → Int
  | 0 => 0
  | k + 1 => tfTo wide xs k + (if 0 < nth xs k then farI wide k (nth xs k - 1) else 0)
theorem tfTo_zero (wide : Int) (xs : List Int) : tfTo wide xs 0 = 0 := rfl
theorem tfTo_pos {wide : Int} {xs : List Int} {k : Nat} (h : 0 < nth xs k) : tfTo wide xs (k + 1) = tfTo wide xs k + farI wide k (nth xs k - 1) := by rw [tfTo, if_pos h]
theorem tfTo_not {wide : Int} {xs : List Int} {k : Nat} (h : ¬ 0 < nth xs k) : tfTo wide xs (k + 1) = tfTo wide xs k := by rw [tfTo, if_neg h, Int.add_zero]

theorem tfTo_bounds {wide : Int} {xs : List Int} (h : BoardOk wide xs) {k : Nat} (hk : k ≤ xs.length) : 0 ≤ tfTo wide xs k ∧ tfTo wide xs k ≤ k * 40 := by
  induction k with
  | zero => simp [tfTo_zero]
  | succ k ih =>
    have ih := ih (by omega)
    have h9 := h.2.1
    by_cases hp : 0 < nth xs k
    · have hb := h.2.2.2.2.1 _ (nth_mem (show k < xs.length by omega))
      have hf := farI_bounds h.2.2.1 (show (0 : Int) ≤ k by omega) (show 0 ≤ nth xs k - 1 by omega)
      rw [tfTo_pos hp]
      omega
    · rw [tfTo_not hp]; omega

def tilesFarI (wide : Int) (xs : List Int) : Int := if BoardOk wide xs then tfTo wide xs xs.length else -1
theorem tilesFarI_in {wide : Int} {xs : List Int} (h : BoardOk wide xs) : tilesFarI wide xs = tfTo wide xs xs.length := if_pos h
theorem tilesFarI_out {wide : Int} {xs : List Int} (h : ¬ BoardOk wide xs) : tilesFarI wide xs = -1 := if_neg h

theorem zeroI_bounds (xs : List Int) (n : Nat) (hn : xs.length = n) : -1 ≤ zeroI xs ∧ zeroI xs ≤ n - 1 ∧ (zeroI xs = -1 ∨ 0 ≤ zeroI xs) := by
  unfold zeroI
  split
  · rename_i j hj
    have := List.mem_of_find?_eq_some hj
    simp at this
    omega
  · omega

/-- How far the free place is from the last one. -/
def freeFarI (wide : Int) (xs : List Int) : Int := if BoardOk wide xs then farI wide (zeroI xs) (xs.length - 1) else -1
theorem freeFarI_in {wide : Int} {xs : List Int} (h : BoardOk wide xs) : freeFarI wide xs = farI wide (zeroI xs) (xs.length - 1) := if_pos h
theorem freeFarI_out {wide : Int} {xs : List Int} (h : ¬ BoardOk wide xs) : freeFarI wide xs = -1 := if_neg h

theorem zeroI_ok {wide : Int} {xs : List Int} (h : BoardOk wide xs) : 0 ≤ zeroI xs ∧ zeroI xs ≤ xs.length - 1 := by
  have hb := zeroI_bounds xs _ rfl
  rcases hb.2.2 with h1 | h1
  · have hm := dis_mem h.2.2.2.2 rfl (t := 0) (by have := h.1; omega)
    obtain ⟨k, hk, e⟩ := List.mem_iff_getElem.1 hm
    have : zeroI xs ≠ -1 := by
      intro e1
      unfold zeroI at e1
      split at e1
      · omega
      · rename_i hn
        rw [List.find?_range_eq_none] at hn
        have := hn k hk
        rw [nth_eq hk, e] at this
        simp at this
    omega
  · omega

theorem last_mod {n wide : Int} (hw : 1 ≤ wide) (hn : n % wide = 0) : (n - 1) % wide = wide - 1 := by
  have h1 := Int.emod_add_mul_ediv n wide
  rw [hn] at h1
  have h2 : n - 1 = (wide - 1) + wide * (n / wide - 1) := by
    rw [Int.mul_sub]; omega
  rw [h2, Int.add_mul_emod_self_left]
  exact Int.emod_eq_of_lt (by omega) (by omega)

theorem far_last {n wide a : Int} (hw : 1 ≤ wide) (hn : n % wide = 0) (_ha : 0 ≤ a) (hb : a ≤ n - 1) :
    farI wide a (n - 1) = (n - 1) / wide - a / wide + (n - 1) % wide - a % wide := by
  have h1 : a / wide ≤ (n - 1) / wide := Int.ediv_le_ediv (by omega) hb
  have h2 := last_mod hw hn
  have h3 := Int.emod_lt_of_pos a (show 0 < wide by omega)
  unfold farI
  rw [h2]
  omega

theorem freeI_neg {wide : Int} {xs : List Int} (h : ¬ BoardOk wide xs) : freeI wide xs < 0 := by rw [freeI_out h]; omega

end Go.Proofs.Ytaepoddlhghdpaa

/- Plain laws of moves: there and back, parity, how far. -/
import Derived.Test.YtfpckcmkikckgaaTp
import Derived.Test.YtfpckcmkikckgaaHi
namespace Go.Proofs.Ytfpckcmkikckgaa
open Go Go.RowKit

theorem swap_back {xs : List Int} {t : Int} (ht : t ≠ 0) : swapL (swapL xs t) t = xs := by
  unfold swapL
  rw [List.map_map]
  conv => rhs; rw [← List.map_id xs]
  refine List.map_congr_left fun x _ => ?_
  simp only [Function.comp, id]
  by_cases h1 : x = t
  · subst h1; rw [if_pos rfl, if_neg (by omega), if_pos rfl]
  · rw [if_neg h1]
    by_cases h2 : x = 0
    · subst h2; rw [if_pos rfl, if_pos rfl]
    · rw [if_neg h2, if_neg h1, if_neg h2]

theorem moved_back {wide : Int} {xs : List Int} (h : BoardOk wide xs) {t : Int} (hc : canB wide xs t = true) : movedL wide (movedL wide xs t) t = xs := by
  rw [movedL_yes (can_back h hc), movedL_yes hc]
  exact swap_back (by have := ((canB_iff h).1 hc).1; omega)

theorem moved_xch {wide : Int} {xs : List Int} (h : BoardOk wide xs) {t : Int} (hc : canB wide xs t = true) : ∃ p q, p < q ∧ q < xs.length ∧ movedL wide xs t = xch xs p q := by
  obtain ⟨z, k, hz, hk, hzk, e1, e2, e3, t1, t2, hf, e4, e5, e6, e7⟩ := moved_at h hc
  have key : ∀ p q, p < q → q < xs.length → (p = z ∧ q = k ∨ p = k ∧ q = z) → movedL wide xs t = xch xs p q := fun p q hpq hq hc2 => by
    refine ext_nth (by rw [length_movedL, length_xch]) fun i hi => ?_
    rw [length_movedL] at hi
    unfold xch
    rw [nth_set (by simpa using hq), nth_set (by omega)]
    rcases hc2 with ⟨rfl, rfl⟩ | ⟨rfl, rfl⟩
    · by_cases i1 : i = q
      · subst i1; rw [if_pos rfl, e5, e2]
      · rw [if_neg i1]
        by_cases i2 : i = p
        · subst i2; rw [if_pos rfl, e6, e3]
        · rw [if_neg i2]; exact e7 i hi i2 i1
    · by_cases i1 : i = q
      · subst i1; rw [if_pos rfl, e6, e3]
      · rw [if_neg i1]
        by_cases i2 : i = p
        · subst i2; rw [if_pos rfl, e5, e2]
        · rw [if_neg i2]; exact e7 i hi i1 i2
  rcases Nat.lt_trichotomy z k with h1 | h1 | h1
  · exact ⟨z, k, h1, hk, key z k h1 hk (.inl ⟨rfl, rfl⟩)⟩
  · exact absurd h1 hzk
  · exact ⟨k, z, h1, hz, key k z h1 hz (.inr ⟨rfl, rfl⟩)⟩

/-- A move changes the parity of the board. -/
theorem moved_odd {wide : Int} {xs : List Int} (h : BoardOk wide xs) {t : Int} (hc : canB wide xs t = true) : oddB wide (movedL wide xs t) = !(oddB wide xs) := by
  obtain ⟨p, q, hpq, hq, e⟩ := moved_xch h hc
  rw [e]; exact (odd_xch h hpq hq).2

theorem far_par {wide a b c : Int} (h : farI wide a b = 1) : (farI wide a c + farI wide b c) % 2 = 1 := by
  unfold farI at *
  generalize a / wide = a1 at *
  generalize a % wide = a2 at *
  generalize b / wide = b1 at *
  generalize b % wide = b2 at *
  generalize c / wide = c1 at *
  generalize c % wide = c2 at *
  omega

theorem far_step {wide a b c : Int} (h : farI wide a b = 1) : farI wide a c - farI wide b c = 1 ∨ farI wide a c - farI wide b c = -1 := by
  unfold farI at *
  generalize a / wide = a1 at *
  generalize a % wide = a2 at *
  generalize b / wide = b1 at *
  generalize b % wide = b2 at *
  generalize c / wide = c1 at *
  generalize c % wide = c2 at *
  omega

/-- .. and that of FreeFar. -/
theorem moved_freeFar {wide : Int} {xs : List Int} (h : BoardOk wide xs) {t : Int} (hc : canB wide xs t = true) : (freeFarI wide (movedL wide xs t) + freeFarI wide xs) % 2 = 1 := by
  obtain ⟨z, k, hz, hk, hzk, e1, e2, e3, t1, t2, hf, e4, e5, e6, e7⟩ := moved_at h hc
  rw [freeFarI_in h, freeFarI_in (boardOk_moved h), e1, e4, length_movedL]
  exact far_par hf

/-- What a place adds to TilesFar. -/
def tf1 (wide : Int) (xs : List Int) (k : Nat) : Int := if 0 < nth xs k then farI wide k (nth xs k - 1) else 0
theorem tfTo_s (wide : Int) (xs : List Int) (k : Nat) : tfTo wide xs (k + 1) = tfTo wide xs k + tf1 wide xs k := by
  unfold tf1
  by_cases h : 0 < nth xs k
  · rw [if_pos h, tfTo_pos h]
  · rw [if_neg h, tfTo_not h, Int.add_zero]

theorem tf_diff {wide : Int} {xs ys : List Int} {p q n : Nat} (hpq : p ≠ q) (h : ∀ i, i < n → i ≠ p → i ≠ q → nth ys i = nth xs i) : ∀ k, k ≤ n → tfTo wide ys k = tfTo wide xs k + (if p < k then tf1 wide ys p - tf1 wide xs p else 0) + (if q < k then tf1 wide ys q - tf1 wide xs q else 0)
  | 0, _ => by simp [tfTo_zero]
  | k + 1, hk => by
    rw [tfTo_s, tfTo_s, tf_diff hpq h k (by omega)]
    by_cases h1 : k = p
    · subst h1
      rw [if_neg (Nat.lt_irrefl _), if_pos (Nat.lt_succ_self _)]
      by_cases h2 : q < k
      · rw [if_pos h2, if_pos (by omega)]; omega
      · rw [if_neg h2, if_neg (by omega)]; omega
    · by_cases h2 : k = q
      · subst h2
        rw [if_neg (Nat.lt_irrefl _), if_pos (Nat.lt_succ_self _)]
        by_cases h3 : p < k
        · rw [if_pos h3, if_pos (by omega)]; omega
        · rw [if_neg h3, if_neg (by omega)]; omega
      · have e : tf1 wide ys k = tf1 wide xs k := by unfold tf1; rw [h k (by omega) h1 h2]
        rw [e]
        have c1 : (p < k + 1) = (p < k) := by simp only [eq_iff_iff]; omega
        have c2 : (q < k + 1) = (q < k) := by simp only [eq_iff_iff]; omega
        simp only [c1, c2]
        omega

/-- .. and TilesFar by 1. -/
theorem moved_tilesFar {wide : Int} {xs : List Int} (h : BoardOk wide xs) {t : Int} (hc : canB wide xs t = true) : tilesFarI wide (movedL wide xs t) - tilesFarI wide xs = 1 ∨ tilesFarI wide (movedL wide xs t) - tilesFarI wide xs = -1 := by
  obtain ⟨z, k, hz, hk, hzk, e1, e2, e3, t1, t2, hf, e4, e5, e6, e7⟩ := moved_at h hc
  rw [tilesFarI_in h, tilesFarI_in (boardOk_moved h), length_movedL, tf_diff hzk (n := xs.length) e7 xs.length (Nat.le_refl _), if_pos hz, if_pos hk]
  unfold tf1
  rw [e2, e3, e5, e6, if_neg (show ¬ (0 : Int) < 0 by omega), if_pos (show 0 < t by omega)]
  have := far_step (c := t - 1) (by rw [farI_comm]; exact hf : farI wide z k = 1)
  simp only [if_neg (show ¬ (0 : Int) < 0 by omega)] at *
  omega

theorem freeFarI_nonneg' {wide : Int} {xs : List Int} (h : BoardOk wide xs) : 0 ≤ freeFarI wide xs ∧ freeFarI wide xs ≤ 100 := by
  rw [freeFarI_in h]
  have h1 := h.1
  have h2 := h.2.1
  have hz := zeroI_ok h
  have := farI_bounds (wide := wide) (a := zeroI xs) (b := (xs.length : Int) - 1) h.2.2.1 hz.1 (by omega)
  omega

theorem tilesFar_bounds {wide : Int} {xs : List Int} (h : BoardOk wide xs) : 0 ≤ tilesFarI wide xs ∧ tilesFarI wide xs ≤ 1000 := by
  rw [tilesFarI_in h]
  have := tfTo_bounds h (Nat.le_refl xs.length)
  have := h.2.1
  omega

end Go.Proofs.Ytfpckcmkikckgaa

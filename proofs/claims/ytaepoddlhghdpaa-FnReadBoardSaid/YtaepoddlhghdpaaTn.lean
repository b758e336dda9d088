/- Plain laws of boards: some tile may always be moved. -/
import Derived.Test.YtaepoddlhghdpaaTg
namespace Go.Proofs.Ytaepoddlhghdpaa
open Go Go.RowKit

theorem dm {w q m a : Int} (hw : 0 < w) (h : m + w * q = a) (h0 : 0 ≤ m) (h1 : m < w) : a / w = q ∧ a % w = m := (Int.ediv_emod_unique hw).2 ⟨h, h0, h1⟩

/-- Beside each place of a board lies another one. -/
theorem near_place {wide n z : Int} (hw : 1 ≤ wide) (hn : n % wide = 0) (h2 : 2 ≤ n) (hz : 0 ≤ z) (hzn : z < n) : ∃ j, 0 ≤ j ∧ j < n ∧ farI wide j z = 1 := by
  have hd := Int.mul_ediv_add_emod z wide
  have hm0 := Int.emod_nonneg z (b := wide) (by omega)
  have hm1 := Int.emod_lt_of_pos z (b := wide) (by omega)
  have hnd := Int.mul_ediv_add_emod n wide
  rw [hn] at hnd
  generalize hq : z / wide = q at *
  generalize hm : z % wide = m at *
  generalize n / wide = p at *
  by_cases h1 : wide = 1
  · subst h1
    have hj : ∀ j : Int, j / 1 = j ∧ j % 1 = 0 := fun j => ⟨Int.ediv_one j, Int.emod_one j⟩
    by_cases hl : z + 1 < n
    · refine ⟨z + 1, by omega, hl, ?_⟩
      unfold farI
      rw [(hj _).1, (hj _).1, (hj _).2, (hj _).2]; omega
    · refine ⟨z - 1, by omega, by omega, ?_⟩
      unfold farI
      rw [(hj _).1, (hj _).1, (hj _).2, (hj _).2]; omega
  · by_cases hl : m + 1 < wide
    · obtain ⟨e1, e2⟩ := dm (w := wide) (q := q) (m := m + 1) (a := z + 1) (by omega) (by omega) (by omega) hl
      refine ⟨z + 1, by omega, ?_, ?_⟩
      · refine Classical.byContradiction fun hc => ?_
        have hn1 : n = z + 1 := by omega
        have h3 := Int.emod_emod_of_dvd n (Int.dvd_refl wide)
        rw [← hn1, hn] at e2
        omega
      · unfold farI; rw [e1, e2, hq, hm]; omega
    · obtain ⟨e1, e2⟩ := dm (w := wide) (q := q) (m := m - 1) (a := z - 1) (by omega) (by omega) (by omega) (by omega)
      have hge : 0 ≤ wide * q := by
        refine Int.mul_nonneg (by omega) ?_
        rw [← hq]; exact Int.ediv_nonneg hz (by omega)
      refine ⟨z - 1, by omega, by omega, ?_⟩
      unfold farI; rw [e1, e2, hq, hm]; omega

theorem farI_self (wide a : Int) : farI wide a a = 0 := by unfold farI; omega

theorem may_some {wide : Int} {xs : List Int} (h : BoardOk wide xs) : 0 < (mayL wide xs).length := by
  have hz := zeroI_ok h
  obtain ⟨z, hz'⟩ : ∃ z : Nat, zeroI xs = z := Int.eq_ofNat_of_zero_le hz.1
  obtain ⟨hzl, hz0⟩ := zeroI_nth h hz'
  obtain ⟨j, j0, jn, hf⟩ := near_place (z := (z : Int)) h.2.2.1 h.2.2.2.1 (by have := h.1; omega) (by omega) (by omega)
  obtain ⟨k, rfl⟩ := Int.eq_ofNat_of_zero_le j0
  have hk : k < xs.length := by omega
  have hd := h.2.2.2.2
  have hb := hd.1 _ (nth_mem hk)
  have hne : nth xs k ≠ 0 := fun e => by
    have := nth_inj hd hk hzl (by rw [e, hz0])
    subst this
    rw [farI_self] at hf
    omega
  have hc : canB wide xs (nth xs k) = true := (canB_iff h).2 ⟨⟨by omega, by omega⟩, k, hk, rfl, by rw [hz']; exact hf⟩
  unfold canB hasL at hc
  cases hm : mayL wide xs with
  | nil => rw [hm] at hc; simp at hc
  | cons a t => simp

theorem may_can {wide : Int} {xs : List Int} {k : Nat} (hk : k < (mayL wide xs).length) : canB wide xs (nth (mayL wide xs) k) = true := by
  unfold canB hasL
  rw [List.contains_iff_mem]
  exact nth_mem hk

theorem may_le9 {wide : Int} {xs : List Int} (h : BoardOk wide xs) : (mayL wide xs).length ≤ 81 := by
  rw [mayL_in h]
  have := mayTo_len (wide := wide) (free := zeroI xs) h.2.1 (xs.length - 1)
  have := h.2.1
  omega

end Go.Proofs.Ytaepoddlhghdpaa

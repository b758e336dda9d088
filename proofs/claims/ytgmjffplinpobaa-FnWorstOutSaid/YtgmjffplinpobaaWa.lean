/- Plain law of WorstOut. -/
import Derived.Test.YtgmjffplinpobaaLw
namespace Go.Proofs.Ytgmjffplinpobaa
open Go Go.RowKit

/-- The greatest least number of presses, over the lights below L. -/
noncomputable def wst (xs : List Int) : Nat → Int
  | 0 => -1
  | L + 1 => if 0 ≤ outI xs L then max (wst xs L) (pc (outI xs L).toNat) else wst xs L
theorem wst_in {xs : List Int} {L : Nat} (h : 0 ≤ outI xs L) : wst xs (L + 1) = max (wst xs L) (pc (outI xs L).toNat) := if_pos h
theorem wst_not {xs : List Int} {L : Nat} (h : ¬ 0 ≤ outI xs L) : wst xs (L + 1) = wst xs L := if_neg h
theorem wst_rng (xs : List Int) : ∀ L, -1 ≤ wst xs L ∧ wst xs L ≤ 10
  | 0 => ⟨Int.le_refl _, by show (-1 : Int) ≤ 10; omega⟩
  | L + 1 => by
    have h := wst_rng xs L
    by_cases e : 0 ≤ outI xs L
    · have := pc_le (outI xs L).toNat
      rw [wst_in e]; omega
    · rw [wst_not e]; exact h
theorem wst_le {xs : List Int} : ∀ {k L : Nat}, L < k → 0 ≤ outI xs L → (pc (outI xs L).toNat : Int) ≤ wst xs k
  | k + 1, L, h, h0 => by
    by_cases e : L = k
    · subst e; rw [wst_in h0]; omega
    · have ih := wst_le (k := k) (L := L) (by omega) h0
      by_cases e2 : 0 ≤ outI xs k
      · rw [wst_in e2]; omega
      · rw [wst_not e2]; exact ih
theorem wst_at {xs : List Int} : ∀ {k : Nat}, 0 ≤ wst xs k → ∃ L, L < k ∧ 0 ≤ outI xs L ∧ (pc (outI xs L).toNat : Int) = wst xs k
  | 0, h => absurd h (by show ¬ (0 : Int) ≤ -1; omega)
  | k + 1, h => by
    by_cases e : 0 ≤ outI xs k
    · rw [wst_in e] at h ⊢
      by_cases hm : wst xs k ≤ (pc (outI xs k).toNat : Int)
      · exact ⟨k, by omega, e, by omega⟩
      · obtain ⟨L, h1, h2, h3⟩ := wst_at (xs := xs) (k := k) (by omega)
        exact ⟨L, by omega, h2, by omega⟩
    · rw [wst_not e] at h ⊢
      obtain ⟨L, h1, h2, h3⟩ := wst_at h
      exact ⟨L, by omega, h2, h3⟩
noncomputable def worstW (xs : List Int) : Int := if grB xs = true then wst xs (2 ^ xs.length) else -1
theorem worstW_in {xs : List Int} (h : GrOk xs) : worstW xs = wst xs (2 ^ xs.length) := if_pos (grB_in h)
theorem worstW_out {xs : List Int} (h : grB xs = false) : worstW xs = -1 := if_neg (by rw [h]; simp)
theorem setB_nat {xs : List Int} (h : GrOk xs) {L : Nat} (hL : L < 2 ^ xs.length) : setB xs L = true := by
  rw [setB_iff]
  generalize 2 ^ xs.length = P at *
  exact ⟨h, by omega, by omega⟩
theorem out_zero {xs : List Int} (h : GrOk xs) : 0 ≤ outI xs ((0 : Nat) : Int) := by
  have hp : 0 < 2 ^ xs.length := Nat.pow_pos (by decide)
  rw [out_iff (setB_nat h hp)]
  exact ⟨0, hp, prs_zero xs _⟩
theorem wst_nonneg {xs : List Int} (h : GrOk xs) : 0 ≤ wst xs (2 ^ xs.length) := by
  have h1 := wst_le (xs := xs) (k := 2 ^ xs.length) (L := 0) (Nat.pow_pos (by decide)) (out_zero h)
  omega
/-- Never more than the rank. -/
theorem wst_rank {xs : List Int} (h : GrOk xs) {R : Nat} (hR : RkEnd xs R) : wst xs (2 ^ xs.length) ≤ R := by
  obtain ⟨L, h1, h2, h3⟩ := wst_at (wst_nonneg h)
  rw [← h3]
  have hs := setB_nat h h1
  obtain ⟨s, hs1, hs2⟩ := (out_iff hs).1 h2
  obtain ⟨t, ht1, ht2, ht3⟩ := hR.few L ⟨s, hs2⟩
  rw [outI_in hs]
  have := ((bst_spec xs L (2 ^ xs.length)).2 t ht1 (by rw [ht2])).2
  omega

/-- The table: the least number so far for each lights. -/
def fw (xs : List Int) (k L : Nat) : Int := if bst xs L k < 0 then -1 else pc (bst xs L k).toNat
def fewL (xs : List Int) (P k : Nat) : List Int := (List.range P).map fun L => fw xs k L
theorem length_fewL (xs : List Int) (P k : Nat) : (fewL xs P k).length = P := by simp [fewL]
theorem nth_fewL {xs : List Int} {P k L : Nat} (h : L < P) : nth (fewL xs P k) L = fw xs k L := by
  unfold nth fewL; simp [List.getD, h]
theorem fewL_zero (xs : List Int) (P : Nat) : fewL xs P 0 = List.replicate P (-1) := by
  refine ext_nth (by simp [length_fewL]) fun j hj => ?_
  rw [length_fewL] at hj
  rw [nth_fewL hj]
  have : fw xs 0 j = -1 := if_pos (by show (-1 : Int) < 0; omega)
  rw [this]; unfold nth; simp [List.getD, hj]
theorem fewL_set {xs : List Int} {P k : Nat} (hp : press xs k < P) (h : fw xs k (press xs k) < 0 ∨ (pc k : Int) < fw xs k (press xs k)) : (fewL xs P k).set (press xs k) (pc k) = fewL xs P (k + 1) := by
  refine ext_nth (by simp [length_fewL]) fun j hj => ?_
  rw [List.length_set, length_fewL] at hj
  rw [nth_set (by rw [length_fewL]; exact hp), nth_fewL hj]
  by_cases e : j = press xs k
  · subst e
    rw [if_pos rfl]
    have hc : (press xs k : Int) = (press xs k : Nat) ∧ (bst xs (press xs k : Nat) k < 0 ∨ pc k < pc (bst xs (press xs k : Nat) k).toNat) := by
      refine ⟨rfl, ?_⟩
      by_cases hb : bst xs (press xs k : Nat) k < 0
      · exact .inl hb
      · unfold fw at h
        rw [if_neg hb] at h
        exact .inr (by omega)
    rw [nth_fewL hp]
    unfold fw
    rw [bst_in hc, if_neg (by omega), Int.toNat_natCast]
  · rw [if_neg e, nth_fewL hj]
    unfold fw
    rw [bst_not (fun h => e (by have := h.1; omega))]
theorem fewL_same {xs : List Int} {P k : Nat} (h : ¬ (fw xs k (press xs k) < 0 ∨ (pc k : Int) < fw xs k (press xs k))) : fewL xs P k = fewL xs P (k + 1) := by
  refine ext_nth (by simp [length_fewL]) fun j hj => ?_
  rw [length_fewL] at hj
  rw [nth_fewL hj, nth_fewL hj]
  unfold fw
  rw [bst_not]
  rintro ⟨h1, h2⟩
  have : j = press xs k := by omega
  subst this
  refine h ?_
  unfold fw
  by_cases hb : bst xs (press xs k : Nat) k < 0
  · rw [if_pos hb]; exact .inl (by omega)
  · rw [if_neg hb]; rcases h2 with h2 | h2
    · exact absurd h2 hb
    · exact .inr (by omega)
theorem fw_rng (xs : List Int) (k L : Nat) : -1 ≤ fw xs k L ∧ fw xs k L ≤ 10 := by
  unfold fw
  split
  · omega
  · have := pc_le (bst xs L k).toNat; omega
/-- The last loop. -/
def mxI (xs : List Int) (P : Nat) : Nat → Int
  | 0 => 0
  | L + 1 => max (mxI xs P L) (fw xs P L)
theorem mxI_wst {xs : List Int} (h : GrOk xs) : ∀ L, L ≤ 2 ^ xs.length → mxI xs (2 ^ xs.length) L = max 0 (wst xs L)
  | 0, _ => by show (0 : Int) = max 0 (-1); omega
  | L + 1, hL => by
    have ih := mxI_wst h L (by omega)
    have hs := setB_nat h (L := L) (by omega)
    rw [mxI, ih]
    by_cases e : 0 ≤ outI xs L
    · rw [wst_in e]
      rw [outI_in hs] at e ⊢
      unfold fw
      rw [if_neg (by omega)]; omega
    · rw [wst_not e]
      rw [outI_in hs] at e
      unfold fw
      rw [if_pos (by omega)]; omega
theorem mxI_end {xs : List Int} (h : GrOk xs) : mxI xs (2 ^ xs.length) (2 ^ xs.length) = worstW xs := by
  have := wst_nonneg h
  rw [mxI_wst h _ (Nat.le_refl _), worstW_in h]; omega
theorem mxI_rng (xs : List Int) (P : Nat) : ∀ L, 0 ≤ mxI xs P L ∧ mxI xs P L ≤ 10
  | 0 => ⟨Int.le_refl _, by show (0 : Int) ≤ 10; omega⟩
  | L + 1 => by
    have := mxI_rng xs P L
    have := fw_rng xs P L
    rw [mxI]; omega

end Go.Proofs.Ytgmjffplinpobaa

/- Plain laws of what the search finds: nearer or farther by one, never nearer than the tiles are far. -/
import Derived.Test.YtfpckcmkikckgaaSe
namespace Go.Proofs.Ytfpckcmkikckgaa
open Go Go.RowKit

theorem farS_at {wide : Int} {n a j : Nat} {S : List (List Int × Int)} (h : Srch wide n S a j) {i : Nat} (hi : i < S.length) : farS S (bdS S i) = dpS S i := by
  have hm : S[i] ∈ S := List.getElem_mem hi
  have hb : bdS S i = S[i].1 := by simp [bdS, hi]
  unfold farS
  cases e : S.find? (fun p => p.1 == bdS S i) with
  | none =>
    have := List.find?_eq_none.1 e _ hm
    rw [hb] at this
    simp at this
  | some p =>
    have hp := List.find?_some e
    have hpm := List.mem_of_find?_eq_some e
    obtain ⟨k, hk, rfl⟩ := List.getElem_of_mem hpm
    have hk2 : bdS S k = bdS S i := by simpa [bdS, hk] using hp
    have := h.one k i hk hi hk2
    subst this
    simp [dpS, hk]

theorem farS_no {S : List (List Int × Int)} {xs : List Int} (h : hasS S xs = false) : farS S xs = -1 := by
  unfold farS
  cases e : S.find? (fun p => p.1 == xs) with
  | none => rfl
  | some p =>
    have hp := List.find?_some e
    have hpm := List.mem_of_find?_eq_some e
    have : hasS S xs = true := by
      unfold hasS
      rw [decide_eq_true_iff, List.mem_map]
      exact ⟨p, hpm, by simpa using hp⟩
    rw [h] at this; simp at this

theorem dep_pos {wide : Int} {n a j : Nat} {S : List (List Int × Int)} (h : Srch wide n S a j) {i : Nat} (hi : i < S.length) : 0 ≤ dpS S i := by
  have := h.mono 0 i (Nat.zero_le _) hi
  have := h.zero.2
  omega

theorem dep_zero {wide : Int} {n a j : Nat} {S : List (List Int × Int)} (h : Srch wide n S a j) {i : Nat} (hi : i < S.length) : dpS S i = 0 ↔ i = 0 := by
  constructor
  · intro e
    rcases Nat.eq_zero_or_pos i with e0 | h0
    · exact e0
    · obtain ⟨k, t, hk, _, _, hd⟩ := h.par i h0 hi
      have := dep_pos h (i := k) (by omega)
      omega
  · rintro rfl
    exact h.zero.2

theorem dep_le {wide : Int} {n a j : Nat} {S : List (List Int × Int)} (h : Srch wide n S a j) : ∀ i, i < S.length → dpS S i ≤ i := by
  intro i
  induction i using Nat.strongRecOn with
  | ind i ih =>
    intro hi
    rcases Nat.eq_zero_or_pos i with rfl | h0
    · rw [h.zero.2]; omega
    · obtain ⟨k, t, hk, _, _, hd⟩ := h.par i h0 hi
      have := ih k hk (by omega)
      omega

theorem farS_has {wide : Int} {n a j : Nat} {S : List (List Int × Int)} (h : Srch wide n S a j) (xs : List Int) : hasS S xs = decide (0 ≤ farS S xs) := by
  cases hs : hasS S xs with
  | false => rw [farS_no hs]; rfl
  | true =>
    obtain ⟨i, hi, rfl⟩ := hasS_iff.1 hs
    rw [farS_at h hi]
    exact (decide_eq_true (dep_pos h hi)).symm

/-! What is far of the tiles. -/
theorem ordL_nth {n k : Nat} (h : k < n) : nth (ordL n) k = if k + 1 < n then (k : Int) + 1 else 0 := by
  unfold ordL
  by_cases hk : k + 1 < n
  · rw [if_pos hk, nth_app1 (by rw [length_iota]; omega), nth_iota (by omega)]; omega
  · rw [if_neg hk, nth_app2 (by rw [length_iota]; omega), length_iota, show k - (n - 1) = 0 by omega]; rfl

theorem tf1_ord (wide : Int) {n k : Nat} (h : k < n) : tf1 wide (ordL n) k = 0 := by
  unfold tf1
  rw [ordL_nth h]
  by_cases hk : k + 1 < n
  · rw [if_pos hk, if_pos (by omega), show (k : Int) + 1 - 1 = k by omega, farI_self]
  · rw [if_neg hk, if_neg (by omega)]

theorem tf_ord (wide : Int) (n : Nat) : ∀ k, k ≤ n → tfTo wide (ordL n) k = 0
  | 0, _ => rfl
  | k + 1, h => by rw [tfTo_s, tf_ord wide n k (by omega), tf1_ord wide (by omega)]; rfl

theorem tilesFar_ord {wide : Int} {n : Nat} (h : BoardOk wide (ordL n)) (hl : (ordL n).length = n) : tilesFarI wide (ordL n) = 0 := by
  rw [tilesFarI_in h, hl, tf_ord wide n n (Nat.le_refl _)]

theorem tf1_nonneg {wide : Int} {xs : List Int} (h : BoardOk wide xs) {k : Nat} (_hk : k < xs.length) : 0 ≤ tf1 wide xs k := by
  unfold tf1
  by_cases h0 : 0 < nth xs k
  · rw [if_pos h0]
    exact (farI_bounds h.2.2.1 (by omega) (by omega)).1
  · rw [if_neg h0]; omega

theorem farI_zero {wide a b : Int} (h : farI wide a b = 0) : a = b := by
  have e1 := Int.mul_ediv_add_emod a wide
  have e2 := Int.mul_ediv_add_emod b wide
  unfold farI at h
  generalize a / wide = p at *
  generalize b / wide = q at *
  have : p = q := by omega
  subst this
  omega

/-- Nothing is far: the board is in order. -/
theorem tilesFar_zero {wide : Int} {xs : List Int} (h : BoardOk wide xs) (h0 : tilesFarI wide xs = 0) : xs = ordL xs.length := by
  rw [tilesFarI_in h] at h0
  have hz : ∀ k, k ≤ xs.length → tfTo wide xs k = 0 ∧ ∀ j, j < k → tf1 wide xs j = 0 := by
    have hm : ∀ k d, k + d ≤ xs.length → tfTo wide xs k ≤ tfTo wide xs (k + d) := fun k d => by
      induction d with
      | zero => intro _; exact Int.le_refl _
      | succ d ih =>
        intro hd
        have := ih (by omega)
        rw [show k + (d + 1) = (k + d) + 1 from rfl, tfTo_s]
        have := tf1_nonneg h (k := k + d) (by omega)
        omega
    intro k hk
    have hk0 : tfTo wide xs k = 0 := by
      have h1 := hm k (xs.length - k) (by omega)
      have h2 := hm 0 k (by omega)
      rw [show k + (xs.length - k) = xs.length by omega, h0] at h1
      rw [Nat.zero_add, tfTo_zero] at h2
      omega
    refine ⟨hk0, fun j hj => ?_⟩
    have h1 := hm 0 j (by omega)
    have h2 := hm (j + 1) (xs.length - (j + 1)) (by omega)
    rw [show j + 1 + (xs.length - (j + 1)) = xs.length by omega, h0, tfTo_s] at h2
    rw [Nat.zero_add, tfTo_zero] at h1
    have := tf1_nonneg h (k := j) (by omega)
    omega
  have hz := (hz _ (Nat.le_refl _)).2
  have hn := h.1
  have hd := h.2.2.2.2
  have hl : (ordL xs.length).length = xs.length := length_ordL (by omega)
  have hb := hd.1
  have hpos : ∀ k, k < xs.length → 0 < nth xs k → nth xs k = (k : Int) + 1 := fun k hk hp => by
    have := hz k hk
    unfold tf1 at this
    rw [if_pos hp] at this
    have := farI_zero this
    omega
  obtain ⟨z, hz'⟩ : ∃ z : Nat, zeroI xs = z := Int.eq_ofNat_of_zero_le (zeroI_ok h).1
  obtain ⟨hzl, hz0⟩ := zeroI_nth h hz'
  have hzlast : z + 1 = xs.length := by
    refine Classical.byContradiction fun hne => ?_
    have hz1 : z + 1 < xs.length := by omega
    obtain ⟨k, hk, e⟩ := List.getElem_of_mem (dis_mem hd rfl hz1)
    rw [← nth_eq hk] at e
    have := hpos k hk (by omega)
    have : k = z := by omega
    subst this
    omega
  refine ext_nth (by rw [hl]) fun k hk => ?_
  rw [ordL_nth hk]
  by_cases hkz : k = z
  · subst hkz; rw [if_neg (by omega)]; exact hz0
  · rw [if_pos (by omega)]
    refine hpos k hk ?_
    have h1 := hb _ (nth_mem hk)
    have h2 : nth xs k ≠ 0 := fun e => hkz (nth_inj hd hk hzl (e.trans hz0.symm))
    omega

/-- As many moves at least as the tiles are far, and the difference is even. -/
theorem dep_far {wide : Int} {n a j : Nat} {S : List (List Int × Int)} (h : Srch wide n S a j) : ∀ i, i < S.length → tilesFarI wide (bdS S i) ≤ dpS S i ∧ (dpS S i - tilesFarI wide (bdS S i)) % 2 = 0 := by
  intro i
  induction i using Nat.strongRecOn with
  | ind i ih =>
    intro hi
    rcases Nat.eq_zero_or_pos i with rfl | h0
    · have h1 := h.ok 0 hi
      have hz := h.zero
      rw [hz.1] at h1 ⊢
      rw [hz.2, tilesFar_ord h1.1 h1.2]
      exact ⟨Int.le_refl _, rfl⟩
    · obtain ⟨k, t, hk, hc, hb, hd⟩ := h.par i h0 hi
      have hi2 := ih k hk (by omega)
      have hm := moved_tilesFar (h.ok k (by omega)).1 hc
      rw [hb, hd]
      rcases hm with hm | hm
      · refine ⟨by omega, by omega⟩
      · refine ⟨by omega, by omega⟩

/-- A move leads nearer or farther by one. -/
theorem dep_near {wide : Int} {n j : Nat} {S : List (List Int × Int)} (h : Srch wide n S S.length j) {i : Nat} (hi : i < S.length) {t : Int} (hc : canB wide (bdS S i) t = true) :
    ∃ k, k < S.length ∧ bdS S k = movedL wide (bdS S i) t ∧ (dpS S k = dpS S i + 1 ∨ dpS S k = dpS S i - 1) := by
  obtain ⟨k, hk, hb, hd⟩ := h.clo i t hi (.inl hi) hc
  refine ⟨k, hk, hb, ?_⟩
  have hok := (h.ok i hi).1
  have hc2 : canB wide (bdS S k) t = true := by rw [hb]; exact can_back hok hc
  obtain ⟨i', hi', hb', hd'⟩ := h.clo k t hk (.inl hk) hc2
  have : i' = i := h.one i' i hi' hi (by rw [hb', hb, moved_back hok hc])
  subst this
  have f1 := (dep_far h i' hi).2
  have f2 := (dep_far h k hk).2
  have hm := moved_tilesFar hok hc
  rw [hb] at f2
  omega

/-- Unless the board is in order, some move leads nearer. -/
theorem dep_nearer {wide : Int} {n a j : Nat} {S : List (List Int × Int)} (h : Srch wide n S a j) {i : Nat} (hi : i < S.length) (h0 : 0 < i) :
    ∃ t k, canB wide (bdS S i) t = true ∧ k < S.length ∧ bdS S k = movedL wide (bdS S i) t ∧ dpS S k = dpS S i - 1 := by
  obtain ⟨k, t, hk, hc, hb, hd⟩ := h.par i h0 hi
  have hok := (h.ok k (by omega)).1
  refine ⟨t, k, by rw [hb]; exact can_back hok hc, by omega, by rw [hb, moved_back hok hc], by omega⟩

theorem dep_may {wide : Int} {n a j : Nat} {S : List (List Int × Int)} (h : Srch wide n S a j) : ∀ i, i < S.length → mayB wide (bdS S i) = mayB wide (ordL n) := by
  intro i
  induction i using Nat.strongRecOn with
  | ind i ih =>
    intro hi
    rcases Nat.eq_zero_or_pos i with rfl | h0
    · rw [h.zero.1]
    · obtain ⟨k, t, hk, hc, hb, hd⟩ := h.par i h0 hi
      rw [hb, may_kept (h.ok k (by omega)).1 hc]
      exact ih k hk (by omega)

/-- BoardLeast. -/
def leastI (wide : Int) (xs : List Int) : Int := if BoardOk wide xs ∧ xs.length ≤ 6 then farS (allS wide xs.length) xs else -1
theorem leastI_in {wide : Int} {xs : List Int} (h : BoardOk wide xs) (h6 : xs.length ≤ 6) : leastI wide xs = farS (allS wide xs.length) xs := if_pos ⟨h, h6⟩
theorem leastI_out {wide : Int} {xs : List Int} (h : ¬ (BoardOk wide xs ∧ xs.length ≤ 6)) : leastI wide xs = -1 := if_neg h

/-- A board with the sides of a valid board is valid when in order. -/
theorem ord_ok {wide : Int} {xs : List Int} (h : BoardOk wide xs) : BoardOk wide (ordL xs.length) ∧ (ordL xs.length).length = xs.length := by
  have hl : (ordL xs.length).length = xs.length := length_ordL (by have := h.1; omega)
  have hn := h.1
  refine ⟨⟨by omega, by have := h.2.1; omega, h.2.2.1, by rw [hl]; exact h.2.2.2.1, fun x hx => ?_, ?_⟩, hl⟩
  · obtain ⟨k, hk, rfl⟩ := List.getElem_of_mem hx
    rw [hl] at hk
    rw [← nth_eq (by omega), ordL_nth hk, hl]
    split <;> omega
  · show List.Pairwise _ _
    rw [List.pairwise_iff_getElem]
    intro i k hi hk hik
    rw [← nth_eq hi, ← nth_eq hk, ordL_nth (by omega), ordL_nth (by omega)]
    split <;> split <;> omega

end Go.Proofs.Ytfpckcmkikckgaa

/- Plain laws of permutations: lists of the numbers 0 to n - 1, each once. -/
import Derived.Test.YthcghpcmmjnijaaPj
namespace Go.Proofs.Ythcghpcmmjnijaa
open Go Go.RowKit

theorem dis_nth {n : Nat} {xs : List Int} (h : Dis n xs) {i : Nat} (hi : i < xs.length) : 0 ≤ nth xs i ∧ nth xs i < n := h.1 _ (nth_mem hi)

theorem dis_of {n : Nat} {xs : List Int} (h : ∀ i, i < xs.length → 0 ≤ nth xs i ∧ nth xs i < n) (hj : ∀ i j, i < xs.length → j < xs.length → nth xs i = nth xs j → i = j) : Dis n xs := by
  refine ⟨fun x hx => ?_, List.pairwise_iff_getElem.2 fun i j hi hk hij e => ?_⟩
  · obtain ⟨i, hi, rfl⟩ := List.getElem_of_mem hx
    rw [← nth_eq hi]; exact h i hi
  · rw [← nth_eq hi, ← nth_eq hk] at e
    have := hj i j hi hk e
    omega

/-- Where a number of a permutation stands. -/
theorem dis_at {n : Nat} {xs : List Int} (h : Dis n xs) (hl : xs.length = n) {t : Nat} (ht : t < n) : ∃ j, j < n ∧ nth xs j = t := by
  obtain ⟨j, hj, e⟩ := List.getElem_of_mem (dis_mem h hl ht)
  exact ⟨j, by omega, by rw [nth_eq hj]; exact e⟩

theorem nth_joinL {xs ys : List Int} {i : Nat} (hi : i < xs.length) : nth (joinL xs ys) i = nth ys (nth xs i).toNat := by
  rw [nth_eq (by rw [length_joinL]; exact hi), nth_eq hi]
  simp [joinL]

theorem joinL_dis {n : Nat} {xs ys : List Int} (hx : Dis n xs) (hy : Dis n ys) (lx : xs.length = n) (ly : ys.length = n) : Dis n (joinL xs ys) := by
  refine dis_of (fun i hi => ?_) (fun i j hi hj e => ?_)
  · rw [length_joinL] at hi
    rw [nth_joinL hi]
    have := dis_nth hx hi
    exact dis_nth hy (by omega)
  · rw [length_joinL] at hi hj
    rw [nth_joinL hi, nth_joinL hj] at e
    have h1 := dis_nth hx hi
    have h2 := dis_nth hx hj
    have h3 := nth_inj hy (by omega) (by omega) e
    exact nth_inj hx hi hj (by omega)

theorem permOk_join {xs ys : List Int} (hx : PermOk xs) (hy : PermOk ys) (hl : xs.length = ys.length) : PermOk (joinL xs ys) := by
  have hl2 := length_joinL xs ys
  have h3 := hy.2.2
  rw [← hl] at h3
  refine ⟨by rw [hl2]; exact hx.1, by rw [hl2]; exact hx.2.1, ?_⟩
  rw [hl2]
  exact joinL_dis hx.2.2 h3 rfl hl.symm

theorem joinL_assoc {n : Nat} {xs ys zs : List Int} (hx : Dis n xs) (ly : ys.length = n) : joinL (joinL xs ys) zs = joinL xs (joinL ys zs) := by
  refine ext_nth (by simp only [length_joinL]) fun i hi => ?_
  have hi1 : i < xs.length := by rw [length_joinL, length_joinL] at hi; exact hi
  have := dis_nth hx hi1
  rw [nth_joinL (by rw [length_joinL]; exact hi1), nth_joinL hi1, nth_joinL hi1, nth_joinL (by omega)]

/-- A turned permutation tells where each number stands. -/
theorem nth_turnTo {n : Nat} {xs : List Int} (hx : Dis n xs) (lx : xs.length = n) : ∀ k, k ≤ n → ∀ j, j < k → nth (turnTo xs k) (nth xs j).toNat = j
  | 0, _, j, h => absurd h (by omega)
  | k + 1, hk, j, h => by
    have h1 := dis_nth hx (i := k) (by omega)
    have h2 := dis_nth hx (i := j) (by omega)
    rw [turnTo_succ, nth_set (by rw [length_turnTo]; omega)]
    by_cases e : j = k
    · subst e; simp
    · rw [if_neg fun e2 => e (nth_inj hx (by omega) (by omega) (by omega))]
      exact nth_turnTo hx lx k (by omega) j (by omega)

theorem nth_turnL {n : Nat} {xs : List Int} (hx : Dis n xs) (lx : xs.length = n) {j : Nat} (h : j < n) : nth (turnL xs) (nth xs j).toNat = j := by
  unfold turnL; rw [lx]; exact nth_turnTo hx lx n (Nat.le_refl _) j h

theorem length_turnL (xs : List Int) : (turnL xs).length = xs.length := length_turnTo _ _

theorem turn_at {n : Nat} {xs : List Int} (hx : Dis n xs) (lx : xs.length = n) {i : Nat} (h : i < n) : ∃ j, j < n ∧ nth xs j = i ∧ nth (turnL xs) i = j := by
  obtain ⟨j, hj, e⟩ := dis_at hx lx h
  have := nth_turnL hx lx hj
  rw [e] at this
  exact ⟨j, hj, e, this⟩

theorem turnL_dis {n : Nat} {xs : List Int} (hx : Dis n xs) (lx : xs.length = n) : Dis n (turnL xs) := by
  refine dis_of (fun i hi => ?_) (fun i k hi hk e => ?_)
  · obtain ⟨j, hj, _, e⟩ := turn_at hx lx (i := i) (by rw [length_turnL] at hi; omega)
    rw [e]; omega
  · rw [length_turnL] at hi hk
    obtain ⟨j, hj, e1, e2⟩ := turn_at hx lx (i := i) (by omega)
    obtain ⟨j', hj', e3, e4⟩ := turn_at hx lx (i := k) (by omega)
    have : j = j' := by omega
    subst this
    omega

theorem permOk_turn {xs : List Int} (h : PermOk xs) : PermOk (turnL xs) := by
  refine ⟨by rw [length_turnL]; exact h.1, by rw [length_turnL]; exact h.2.1, ?_⟩
  rw [length_turnL]
  exact turnL_dis h.2.2 rfl

theorem eq_turn {n : Nat} {xs ys : List Int} (hx : Dis n xs) (lx : xs.length = n) (ly : ys.length = n) (h : ∀ j, j < n → nth ys (nth xs j).toNat = j) : ys = turnL xs := by
  refine ext_nth (by rw [length_turnL]; omega) fun i hi => ?_
  obtain ⟨j, hj, e1, e2⟩ := turn_at hx lx (i := i) (by omega)
  have := h j hj
  rw [e1] at this
  rw [e2]
  exact this

/-- Back behind a join: the second one back and then the first one back. -/
theorem turn_join {n : Nat} {xs ys : List Int} (hx : Dis n xs) (hy : Dis n ys) (lx : xs.length = n) (ly : ys.length = n) : turnL (joinL xs ys) = joinL (turnL ys) (turnL xs) := by
  symm
  refine eq_turn (joinL_dis hx hy lx ly) (by rw [length_joinL]; exact lx) (by rw [length_joinL, length_turnL]; exact ly) fun j hj => ?_
  have h1 := dis_nth hx (i := j) (by omega)
  have h2 := dis_nth hy (i := (nth xs j).toNat) (by omega)
  rw [nth_joinL (xs := xs) (ys := ys) (by omega), nth_joinL (by rw [length_turnL]; omega), nth_turnL hy ly (by omega), Int.toNat_natCast, nth_turnL hx lx hj]

theorem join_turn {n : Nat} {xs : List Int} (hx : Dis n xs) (lx : xs.length = n) : joinL xs (turnL xs) = iota 0 n := by
  refine ext_nth (by rw [length_joinL, length_iota]; exact lx) fun i hi => ?_
  rw [length_joinL] at hi
  rw [nth_joinL hi, nth_turnL hx lx (by omega), nth_iota (by omega)]
  omega

theorem turn_join' {n : Nat} {xs : List Int} (hx : Dis n xs) (lx : xs.length = n) : joinL (turnL xs) xs = iota 0 n := by
  refine ext_nth (by rw [length_joinL, length_turnL, length_iota]; exact lx) fun i hi => ?_
  rw [length_joinL, length_turnL] at hi
  obtain ⟨j, hj, e1, e2⟩ := turn_at hx lx (i := i) (by omega)
  rw [nth_joinL (by rw [length_turnL]; omega), e2, Int.toNat_natCast, e1, nth_iota (by omega)]
  omega

/-- FnPermValid: exchanged it is valid, the first number twice it is not. -/
theorem perm_swap {xs : List Int} (h : PermOk xs) (h2 : 2 ≤ xs.length) : PermOk ((xs.set 0 (nth xs 1)).set 1 (nth xs 0)) ∧ ¬ PermOk (xs.set 1 (nth xs 0)) := by
  match xs, h, h2 with
  | a :: b :: t, h, _ =>
    obtain ⟨p1, p2, p3, p4⟩ := h
    simp only [nth, List.getD_cons_zero, List.getD_cons_succ, List.set_cons_zero, List.set_cons_succ]
    simp only [List.nodup_cons, List.mem_cons, not_or] at p4
    refine ⟨⟨by simp, by simpa using p2, ?_, ?_⟩, fun hq => ?_⟩
    · intro x hx
      refine (p3 x (by simp only [List.mem_cons] at hx ⊢; rcases hx with h | h | h <;> simp [h])).imp id fun h => by simpa using h
    · simp only [List.nodup_cons, List.mem_cons, not_or]
      exact ⟨⟨fun e => p4.1.1 e.symm, p4.2.1⟩, p4.1.2, p4.2.2⟩
    · have := hq.2.2.2
      simp at this

end Go.Proofs.Ythcghpcmmjnijaa

/- Bits of small numbers, as the walk spells them; lists whose numbers are each there once. -/
import Derived.Test.YtgmjffplinpobaaBase
import Derived.Laws.BitsLemmas
namespace Go.Proofs.Ytgmjffplinpobaa
open Go Go.RowKit

theorem wraps_i64 (n : Int) (h0 : 0 ≤ n) (h1 : n < 2 ^ 62) : IntKind.i64.wrap n = n := by
  rw [IntKind.wrap_i64]
  omega

theorem i64_and {a b : Nat} (ha : a < 2 ^ 62) (hb : b < 2 ^ 62) : bits .and .i64 (a : Int) (b : Int) = ((a &&& b : Nat) : Int) :=
  (bits_nat .i64 62 (by decide) wraps_i64 a b ha hb).1

theorem i64_or {a b : Nat} (ha : a < 2 ^ 62) (hb : b < 2 ^ 62) : bits .or .i64 (a : Int) (b : Int) = ((a ||| b : Nat) : Int) :=
  (bits_nat .i64 62 (by decide) wraps_i64 a b ha hb).2

theorem pow_lt_62 {t : Nat} (ht : t ≤ 61) : 2 ^ t < 2 ^ 62 := Nat.pow_lt_pow_right (by decide) (by omega)

/-- 's>>t&1 == 1'. -/
theorem bit_test {m t : Nat} (hm : m < 2 ^ 62) : (bits .and .i64 ((m : Int) / 2 ^ t) 1 == 1) = m.testBit t := by
  have h1 : ((m : Int) / 2 ^ t) = ((m / 2 ^ t : Nat) : Int) := by simp
  have h2 : m / 2 ^ t < 2 ^ 62 := Nat.lt_of_le_of_lt (Nat.div_le_self _ _) hm
  have h3 : bits .and .i64 (((m / 2 ^ t : Nat) : Int)) 1 = ((m / 2 ^ t &&& 1 : Nat) : Int) := i64_and h2 (by decide : (1 : Nat) < 2 ^ 62)
  rw [h1, h3, Nat.testBit_eq_decide_div_mod_eq, Nat.and_one_is_mod, Bool.eq_iff_iff]
  simp only [beq_iff_eq, decide_eq_true_eq]
  omega

theorem wrap_pow {t : Nat} (ht : t ≤ 61) : wrap64 (2 ^ t) = ((2 ^ t : Nat) : Int) := by
  have h := pow_lt_62 ht
  have h1 : ((2 : Int) ^ t) = ((2 ^ t : Nat) : Int) := by simp
  rw [h1]
  generalize 2 ^ t = z at *
  exact IntWalk.wrap64_in _ ⟨by omega, by omega⟩

/-- 's | 1<<t'. -/
theorem bit_or {m t : Nat} (hm : m < 2 ^ 62) (ht : t ≤ 61) : bits .or .i64 (m : Int) (wrap64 (2 ^ t)) = ((m ||| 2 ^ t : Nat) : Int) := by
  rw [wrap_pow ht, i64_or hm (pow_lt_62 ht)]

/-- All numbers of a list are in 0 .. n - 1, and none is there twice. -/
def Dis (n : Nat) (xs : List Int) : Prop := (∀ x ∈ xs, 0 ≤ x ∧ x < n) ∧ xs.Nodup

instance (n : Nat) (xs : List Int) : Decidable (Dis n xs) := by unfold Dis; infer_instance

theorem Dis.nil (n : Nat) : Dis n [] := ⟨by simp, by simp⟩

theorem Dis.of_take {n k : Nat} {xs : List Int} (h : Dis n xs) : Dis n (xs.take k) :=
  ⟨fun x hx => h.1 x (List.mem_of_mem_take hx), h.2.sublist (List.take_sublist k xs)⟩

theorem dis_step {n k : Nat} {xs : List Int} (hk : k < xs.length) (h : Dis n (xs.take k)) :
    Dis n (xs.take (k + 1)) ↔ (0 ≤ nth xs k ∧ nth xs k < n) ∧ nth xs k ∉ xs.take k := by
  rw [take_succ_nth hk]
  unfold Dis at *
  rw [List.nodup_append]
  constructor
  · rintro ⟨h1, h2⟩
    refine ⟨h1 _ (by simp), fun hm => ?_⟩
    exact h2.2.2 _ hm _ (by simp) rfl
  · rintro ⟨h1, h2⟩
    refine ⟨?_, h.2, by simp, ?_⟩
    · intro x hx
      rcases List.mem_append.1 hx with hx | hx
      · exact h.1 x hx
      · simp only [List.mem_singleton] at hx; subst hx; exact h1
    · intro a ha b hb
      simp only [List.mem_singleton] at hb
      subst hb
      exact fun e => h2 (e ▸ ha)

theorem not_dis {n k : Nat} {xs : List Int} (h : ¬ Dis n (xs.take k)) : ¬ Dis n xs := fun hd => h hd.of_take

/-- The set of a list's numbers, as bits. -/
def mask (xs : List Int) : Nat := xs.foldl (fun m x => m ||| 2 ^ x.toNat) 0

theorem mask_snoc (xs : List Int) (x : Int) : mask (xs ++ [x]) = mask xs ||| 2 ^ x.toNat := by simp [mask]

theorem mask_test {n : Nat} (xs : List Int) (h : ∀ x ∈ xs, 0 ≤ x ∧ x < n) (t : Nat) : (mask xs).testBit t = decide ((t : Int) ∈ xs) := by
  unfold mask
  suffices ∀ (m : Nat), (xs.foldl (fun m x => m ||| 2 ^ x.toNat) m).testBit t = (m.testBit t || decide ((t : Int) ∈ xs)) by simpa using this 0
  induction xs with
  | nil => simp
  | cons x xs ih =>
    intro m
    rw [List.foldl_cons, ih (fun y hy => h y (List.mem_cons_of_mem _ hy))]
    have hx := h x (by simp)
    rw [Nat.testBit_or, Nat.testBit_two_pow]
    have e : decide (x.toNat = t) = decide ((t : Int) = x) := by
      rw [Bool.eq_iff_iff]; simp only [decide_eq_true_eq]; omega
    rw [e, Bool.eq_iff_iff]
    simp [or_assoc]

theorem mask_lt {n : Nat} (xs : List Int) (h : ∀ x ∈ xs, 0 ≤ x ∧ x < n) : mask xs < 2 ^ n := by
  unfold mask
  suffices ∀ (m : Nat), m < 2 ^ n → xs.foldl (fun m x => m ||| 2 ^ x.toNat) m < 2 ^ n from this 0 (Nat.two_pow_pos n)
  induction xs with
  | nil => intro m h; exact h
  | cons x xs ih =>
    intro m hm
    rw [List.foldl_cons]
    have hx := h x (by simp)
    exact ih (fun y hy => h y (List.mem_cons_of_mem _ hy)) _ (Nat.or_lt_two_pow hm (Nat.pow_lt_pow_right (by decide) (by omega)))

theorem nodup_lt : ∀ (n : Nat) (l : List Nat), l.Nodup → (∀ x ∈ l, x < n) → l.length ≤ n
  | 0, l, _, h => by
    cases l with
    | nil => simp
    | cons a l => exact absurd (h a (by simp)) (by omega)
  | n + 1, l, hd, h => by
    by_cases hm : n ∈ l
    · have h1 := nodup_lt n (l.erase n) (hd.erase n) fun x hx => by
        have h2 := (List.Nodup.mem_erase_iff hd).1 hx
        have := h x h2.2
        have := h2.1
        omega
      rw [List.length_erase_of_mem hm] at h1
      omega
    · have h1 := nodup_lt n l hd fun x hx => by
        have h2 := h x hx
        have h3 : x ≠ n := fun e => hm (e ▸ hx)
        omega
      omega

/-- n different numbers from 0 to n - 1: each is there. -/
theorem dis_mem {n : Nat} {xs : List Int} (h : Dis n xs) (hl : xs.length = n) {t : Nat} (ht : t < n) : (t : Int) ∈ xs := by
  refine Classical.byContradiction fun hm => ?_
  have hnd : (t :: xs.map Int.toNat).Nodup := by
    rw [List.nodup_cons]
    refine ⟨fun hx => ?_, ?_⟩
    · obtain ⟨x, hx, e⟩ := List.mem_map.1 hx
      have h0 := (h.1 x hx).1
      exact hm (by rw [show (t : Int) = x by omega]; exact hx)
    · show List.Pairwise _ _
      rw [List.pairwise_map]
      exact List.Pairwise.imp_of_mem (fun {a b} ha hb hab e => by
        have h0 := (h.1 a ha).1
        have h1 := (h.1 b hb).1
        exact hab (by omega)) h.2
  have := nodup_lt n _ hnd fun x hx => by
    rcases List.mem_cons.1 hx with rfl | hx
    · exact ht
    · obtain ⟨y, hy, rfl⟩ := List.mem_map.1 hx
      have := h.1 y hy
      omega
  simp [hl] at this
  omega

theorem nth_inj {n : Nat} {xs : List Int} (h : Dis n xs) {i j : Nat} (hi : i < xs.length) (hj : j < xs.length) (e : nth xs i = nth xs j) : i = j := by
  rw [nth_eq hi, nth_eq hj] at e
  have hp := List.pairwise_iff_getElem.1 h.2
  rcases Nat.lt_trichotomy i j with h1 | h1 | h1
  · exact absurd e (hp i j hi hj h1)
  · exact h1
  · exact absurd e.symm (hp j i hj hi h1)

end Go.Proofs.Ytgmjffplinpobaa

/- The walks of WordPerm, the program's and the reference's. -/
import Derived.Test.YtojkiajempdmfaaPn
import Derived.Test.YtojkiajempdmfaaPj
import Derived.Test.YtojkiajempdmfaaMv
namespace Go.Proofs.Ytojkiajempdmfaa
open Go Go.RowKit

/-- What a word makes; none if one of its generators is not there. -/
def wordR (rs : List (List Int)) : List Int → List Int → Option (List Int)
  | acc, [] => some acc
  | acc, i :: is => if 0 ≤ i ∧ i < rs.length then wordR rs (joinL acc (nthR rs i.toNat)) is else none
def wordL (p : Int) (rs : List (List Int)) (ws : List Int) : List Int := if MovesOk p rs then (wordR rs (noneL p) ws).getD [] else []
theorem wordL_out {p : Int} {rs : List (List Int)} {ws : List Int} (h : ¬ MovesOk p rs) : wordL p rs ws = [] := if_neg h
theorem wordL_in {p : Int} {rs : List (List Int)} {ws : List Int} (h : MovesOk p rs) : wordL p rs ws = (wordR rs (noneL p) ws).getD [] := if_pos h
theorem wordR_yes {rs : List (List Int)} {acc ws : List Int} {k : Nat} (hk : k < ws.length) (h : 0 ≤ nth ws k ∧ nth ws k < rs.length) : wordR rs acc (ws.drop k) = wordR rs (joinL acc (nthR rs (nth ws k).toNat)) (ws.drop (k + 1)) := by
  rw [List.drop_eq_getElem_cons hk, ← nth_eq hk, wordR, if_pos h]
theorem wordR_no {rs : List (List Int)} {acc ws : List Int} {k : Nat} (hk : k < ws.length) (h : ¬ (0 ≤ nth ws k ∧ nth ws k < rs.length)) : wordR rs acc (ws.drop k) = none := by
  rw [List.drop_eq_getElem_cons hk, ← nth_eq hk, wordR, if_neg h]

theorem nth_inj' {n : Nat} {xs : List Int} (h : Dis n xs) {i j : Nat} (hi : i < xs.length) (hj : j < xs.length) (e : nth xs i = nth xs j) : i = j := by
  rw [nth_eq hi, nth_eq hj] at e
  exact (List.getElem_inj h.2).1 e

theorem dis_join {n : Nat} {xs ys : List Int} (hx : Dis n xs) (hy : Dis n ys) (hl : ys.length = n) : Dis n (joinL xs ys) := by
  refine ⟨fun x hx' => ?_, ?_⟩
  · obtain ⟨a, ha, rfl⟩ := List.mem_map.1 hx'
    have := hx.1 a ha
    exact hy.1 _ (nth_mem (by omega))
  · unfold joinL List.Nodup
    rw [List.pairwise_map]
    refine List.Pairwise.imp_of_mem (fun {a b} ha hb hab e => hab ?_) hx.2
    have h1 := hx.1 a ha
    have h2 := hx.1 b hb
    have := nth_inj' hy (by omega) (by omega) e
    omega

theorem permOk_join {xs ys : List Int} (hx : PermOk xs) (hy : PermOk ys) (hl : xs.length = ys.length) : PermOk (joinL xs ys) := by
  refine ⟨by rw [length_joinL]; exact hx.1, by rw [length_joinL]; exact hx.2.1, ?_⟩
  rw [length_joinL]
  exact dis_join hx.2.2 (by rw [hl]; exact hy.2.2) hl.symm

theorem permOk_none {p : Int} (h : 1 ≤ p ∧ p ≤ 5) : PermOk (noneL p) := by
  have hl : (noneL p).length = p.toNat := by rw [noneL_in h, length_iota]
  refine ⟨by omega, by omega, ?_⟩
  rw [hl, noneL_in h]
  refine ⟨fun x hx => ?_, ?_⟩
  · obtain ⟨j, hj, rfl⟩ := List.mem_map.1 hx
    have := List.mem_range.1 hj
    omega
  · unfold iota List.Nodup
    rw [List.pairwise_map]
    exact List.Pairwise.imp (fun {a b} h => by omega) (List.pairwise_lt_range)

theorem length_none {p : Int} (h : 1 ≤ p ∧ p ≤ 5) : ((noneL p).length : Int) = p := by rw [noneL_in h, length_iota]; omega

theorem length_wordR (rs : List (List Int)) : ∀ (ws acc ys : List Int), wordR rs acc ws = some ys → ys.length = acc.length
  | [], acc, ys, h => by rw [wordR] at h; cases h; rfl
  | i :: is, acc, ys, h => by
    rw [wordR] at h
    split at h
    · rw [length_wordR rs is _ _ h, length_joinL]
    · cases h
theorem length_wordL (p : Int) (rs : List (List Int)) (ws : List Int) : (wordL p rs ws).length ≤ 17592186044416 - 1048576 := by
  by_cases h : MovesOk p rs
  · rw [wordL_in h]
    cases hw : wordR rs (noneL p) ws with
    | none => simp
    | some ys =>
      have h1 := length_wordR rs ws _ ys hw
      have h2 := length_none (p := p) ⟨h.1, h.2.1⟩
      have h3 := h.2.1
      simp only [Option.getD_some]; omega
  · rw [wordL_out h]; simp

end Go.Proofs.Ytojkiajempdmfaa

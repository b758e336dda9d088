/- Plain laws of the search from the board in order. -/
import Derived.Test.YtfpckcmkikckgaaRk
import Derived.Test.YtfpckcmkikckgaaHi
import Derived.Test.YtfpckcmkikckgaaTx
import Derived.Test.YtfpckcmkikckgaaBn
namespace Go.Proofs.Ytfpckcmkikckgaa
open Go Go.RowKit

/-- Board i of a search, and how far it is. -/
def bdS (S : List (List Int × Int)) (i : Nat) : List Int := (S.getD i ([], 0)).1
def dpS (S : List (List Int × Int)) (i : Nat) : Int := (S.getD i ([], 0)).2
def hasS (S : List (List Int × Int)) (xs : List Int) : Bool := decide (xs ∈ S.map Prod.fst)
/-- How far a board is; -1 where it is not there. -/
def farS (S : List (List Int × Int)) (xs : List Int) : Int := match S.find? (fun p => p.1 == xs) with
  | some p => p.2
  | none => -1
/-- One tile tried at board a. -/
def stepS (wide : Int) (S : List (List Int × Int)) (a : Nat) (t : Int) : List (List Int × Int) :=
  if canB wide (bdS S a) t = true ∧ hasS S (movedL wide (bdS S a) t) = false then S ++ [(movedL wide (bdS S a) t, dpS S a + 1)] else S
/-- The first j tiles tried at board a. -/
def tilesS (wide : Int) (S : List (List Int × Int)) (a : Nat) : Nat → List (List Int × Int)
  | 0 => S
  | j + 1 => stepS wide (tilesS wide S a j) a ((j : Int) + 1)
/-- The first a boards worked off. -/
def roundS (wide : Int) (n : Nat) : Nat → List (List Int × Int)
  | 0 => [(ordL n, 0)]
  | a + 1 => if a < (roundS wide n a).length then tilesS wide (roundS wide n a) a (n - 1) else roundS wide n a

theorem stepS_yes {wide : Int} {S : List (List Int × Int)} {a : Nat} {t : Int} (h : canB wide (bdS S a) t = true) (h2 : hasS S (movedL wide (bdS S a) t) = false) : stepS wide S a t = S ++ [(movedL wide (bdS S a) t, dpS S a + 1)] := if_pos ⟨h, h2⟩
theorem stepS_no {wide : Int} {S : List (List Int × Int)} {a : Nat} {t : Int} (h : canB wide (bdS S a) t = false) : stepS wide S a t = S := if_neg fun e => by rw [h] at e; simp at e
theorem stepS_seen {wide : Int} {S : List (List Int × Int)} {a : Nat} {t : Int} (h : hasS S (movedL wide (bdS S a) t) = true) : stepS wide S a t = S := if_neg fun e => by rw [h] at e; simp at e
theorem tilesS_zero (wide : Int) (S : List (List Int × Int)) (a : Nat) : tilesS wide S a 0 = S := rfl
theorem tilesS_succ (wide : Int) (S : List (List Int × Int)) (a j : Nat) : tilesS wide S a (j + 1) = stepS wide (tilesS wide S a j) a ((j : Int) + 1) := rfl
theorem roundS_zero (wide : Int) (n : Nat) : roundS wide n 0 = [(ordL n, 0)] := rfl
theorem roundS_succ {wide : Int} {n a : Nat} (h : a < (roundS wide n a).length) : roundS wide n (a + 1) = tilesS wide (roundS wide n a) a (n - 1) := by rw [roundS, if_pos h]

theorem bdS_old {S : List (List Int × Int)} {p : List Int × Int} {i : Nat} (h : i < S.length) : bdS (S ++ [p]) i = bdS S i := by
  simp [bdS, List.getD_eq_getElem?_getD, List.getElem?_append, h]
theorem dpS_old {S : List (List Int × Int)} {p : List Int × Int} {i : Nat} (h : i < S.length) : dpS (S ++ [p]) i = dpS S i := by
  simp [dpS, List.getD_eq_getElem?_getD, List.getElem?_append, h]
theorem bdS_new (S : List (List Int × Int)) (p : List Int × Int) : bdS (S ++ [p]) S.length = p.1 := by simp [bdS]
theorem dpS_new (S : List (List Int × Int)) (p : List Int × Int) : dpS (S ++ [p]) S.length = p.2 := by simp [dpS]

theorem hasS_iff {S : List (List Int × Int)} {xs : List Int} : hasS S xs = true ↔ ∃ i, i < S.length ∧ bdS S i = xs := by
  unfold hasS
  rw [decide_eq_true_iff, List.mem_map]
  constructor
  · rintro ⟨p, hp, rfl⟩
    obtain ⟨i, hi, rfl⟩ := List.getElem_of_mem hp
    exact ⟨i, hi, by simp [bdS, hi]⟩
  · rintro ⟨i, hi, rfl⟩
    exact ⟨S[i], List.getElem_mem hi, by simp [bdS, hi]⟩
theorem hasS_not {S : List (List Int × Int)} {xs : List Int} (h : hasS S xs = false) {i : Nat} (hi : i < S.length) : bdS S i ≠ xs := fun e => by
  have := hasS_iff.2 ⟨i, hi, e⟩
  rw [h] at this; simp at this

/-- What holds of a search in which the first a boards, and the first j tiles at board a, are worked off. -/
structure Srch (wide : Int) (n : Nat) (S : List (List Int × Int)) (a j : Nat) : Prop where
  pos : 0 < S.length
  zero : bdS S 0 = ordL n ∧ dpS S 0 = 0
  ok : ∀ i, i < S.length → BoardOk wide (bdS S i) ∧ (bdS S i).length = n
  one : ∀ i k, i < S.length → k < S.length → bdS S i = bdS S k → i = k
  par : ∀ i : Nat, 0 < i → i < S.length → ∃ (k : Nat) (t : Int), k < i ∧ canB wide (bdS S k) t = true ∧ bdS S i = movedL wide (bdS S k) t ∧ dpS S i = dpS S k + 1
  mono : ∀ i k, i ≤ k → k < S.length → dpS S i ≤ dpS S k
  top : a < S.length → ∀ i, i < S.length → dpS S i ≤ dpS S a + 1
  clo : ∀ (i : Nat) (t : Int), i < S.length → (i < a ∨ (i = a ∧ t ≤ (j : Int))) → canB wide (bdS S i) t = true → ∃ k, k < S.length ∧ bdS S k = movedL wide (bdS S i) t ∧ dpS S k ≤ dpS S i + 1

theorem Srch.step {wide : Int} {n : Nat} {S : List (List Int × Int)} {a j : Nat} (h : Srch wide n S a j) (ha : a < S.length) : Srch wide n (stepS wide S a ((j : Int) + 1)) a (j + 1) := by
  obtain ⟨h1, h2, h3, h4, h5, h6, h7, h8⟩ := h
  cases hc : canB wide (bdS S a) ((j : Int) + 1) with
  | false =>
    rw [stepS_no hc]
    refine ⟨h1, h2, h3, h4, h5, h6, h7, fun i t hi ht hct => h8 i t hi ?_ hct⟩
    rcases ht with ht | ⟨rfl, ht⟩
    · exact .inl ht
    · refine .inr ⟨rfl, ?_⟩
      have hne : t ≠ (j : Int) + 1 := fun e => by rw [e, hc] at hct; simp at hct
      omega
  | true =>
    cases hs : hasS S (movedL wide (bdS S a) ((j : Int) + 1)) with
    | true =>
      rw [stepS_seen hs]
      refine ⟨h1, h2, h3, h4, h5, h6, h7, fun i t hi ht hct => ?_⟩
      by_cases hx : i = a ∧ t = (j : Int) + 1
      · obtain ⟨rfl, rfl⟩ := hx
        obtain ⟨k, hk, hkb⟩ := hasS_iff.1 hs
        exact ⟨k, hk, hkb, h7 ha k hk⟩
      · refine h8 i t hi ?_ hct
        rcases ht with ht | ⟨rfl, ht⟩
        · exact .inl ht
        · refine .inr ⟨rfl, ?_⟩
          have hne : t ≠ (j : Int) + 1 := fun e => hx ⟨rfl, e⟩
          omega
    | false =>
      rw [stepS_yes hc hs]
      have hlen : (S ++ [(movedL wide (bdS S a) ((j : Int) + 1), dpS S a + 1)]).length = S.length + 1 := by simp
      have hbn := bdS_new S (movedL wide (bdS S a) ((j : Int) + 1), dpS S a + 1)
      have hdn := dpS_new S (movedL wide (bdS S a) ((j : Int) + 1), dpS S a + 1)
      have hbo : ∀ i, i < S.length → bdS (S ++ [(movedL wide (bdS S a) ((j : Int) + 1), dpS S a + 1)]) i = bdS S i := fun i hi => bdS_old hi
      have hdo : ∀ i, i < S.length → dpS (S ++ [(movedL wide (bdS S a) ((j : Int) + 1), dpS S a + 1)]) i = dpS S i := fun i hi => dpS_old hi
      generalize S ++ [(movedL wide (bdS S a) ((j : Int) + 1), dpS S a + 1)] = S' at *
      simp only at hbn hdn
      have hlast : ∀ i, i < S'.length → i < S.length ∨ i = S.length := fun i hi => by omega
      refine ⟨by omega, by rw [hbo 0 h1, hdo 0 h1]; exact h2, fun i hi => ?_, fun i k hi hk e => ?_, fun i hi0 hi => ?_, fun i k hik hk => ?_, fun _ i hi => ?_, fun i t hi ht hct => ?_⟩
      · rcases hlast i hi with e | rfl
        · rw [hbo i e]; exact h3 i e
        · rw [hbn]; exact ⟨boardOk_moved (h3 a ha).1, by rw [length_movedL]; exact (h3 a ha).2⟩
      · rcases hlast i hi with e1 | rfl <;> rcases hlast k hk with e2 | rfl
        · rw [hbo i e1, hbo k e2] at e; exact h4 i k e1 e2 e
        · rw [hbo i e1, hbn] at e; exact absurd e (hasS_not hs e1)
        · rw [hbo k e2, hbn] at e; exact absurd e.symm (hasS_not hs e2)
        · rfl
      · rcases hlast i hi with e | rfl
        · obtain ⟨k, t, hk, hct, hb, hd⟩ := h5 i hi0 e
          exact ⟨k, t, hk, by rw [hbo k (by omega)]; exact hct, by rw [hbo i e, hbo k (by omega)]; exact hb, by rw [hdo i e, hdo k (by omega)]; exact hd⟩
        · exact ⟨a, (j : Int) + 1, ha, by rw [hbo a ha]; exact hc, by rw [hbn, hbo a ha], by rw [hdn, hdo a ha]⟩
      · rcases hlast k hk with e | rfl
        · rw [hdo k e, hdo i (by omega)]; exact h6 i k hik e
        · rw [hdn]
          rcases hlast i (by omega) with e2 | rfl
          · rw [hdo i e2]; exact h7 ha i e2
          · rw [hdn]; omega
      · rw [hdo a ha]
        rcases hlast i hi with e | rfl
        · rw [hdo i e]; exact h7 ha i e
        · rw [hdn]; omega
      · by_cases hx : i = a ∧ t = (j : Int) + 1
        · obtain ⟨rfl, rfl⟩ := hx
          exact ⟨S.length, by omega, by rw [hbn, hbo i ha], by rw [hdn, hdo i ha]; omega⟩
        · rcases hlast i hi with e | rfl
          · rw [hbo i e] at hct
            obtain ⟨k, hk, hb, hd⟩ := h8 i t e (by
              rcases ht with ht | ⟨rfl, ht⟩
              · exact .inl ht
              · refine .inr ⟨rfl, ?_⟩
                have hne : t ≠ (j : Int) + 1 := fun e => hx ⟨rfl, e⟩
                omega) hct
            exact ⟨k, by omega, by rw [hbo k hk, hbo i e]; exact hb, by rw [hdo k hk, hdo i e]; exact hd⟩
          · omega

theorem stepS_len (wide : Int) (S : List (List Int × Int)) (a : Nat) (t : Int) : S.length ≤ (stepS wide S a t).length := by
  unfold stepS; split <;> simp
theorem stepS_bd (wide : Int) {S : List (List Int × Int)} (a : Nat) (t : Int) {i : Nat} (hi : i < S.length) : bdS (stepS wide S a t) i = bdS S i ∧ dpS (stepS wide S a t) i = dpS S i := by
  unfold stepS; split
  · exact ⟨bdS_old hi, dpS_old hi⟩
  · exact ⟨rfl, rfl⟩
theorem tilesS_len (wide : Int) (S : List (List Int × Int)) (a : Nat) : ∀ j, S.length ≤ (tilesS wide S a j).length
  | 0 => Nat.le_refl _
  | j + 1 => Nat.le_trans (tilesS_len wide S a j) (stepS_len _ _ _ _)
theorem tilesS_bd (wide : Int) {S : List (List Int × Int)} (a : Nat) {i : Nat} (hi : i < S.length) : ∀ j, bdS (tilesS wide S a j) i = bdS S i ∧ dpS (tilesS wide S a j) i = dpS S i
  | 0 => ⟨rfl, rfl⟩
  | j + 1 => by
    have h1 := tilesS_bd wide a hi j
    have h2 := stepS_bd wide a ((j : Int) + 1) (Nat.lt_of_lt_of_le hi (tilesS_len wide S a j))
    exact ⟨h2.1.trans h1.1, h2.2.trans h1.2⟩

theorem Srch.tiles {wide : Int} {n : Nat} {S : List (List Int × Int)} {a : Nat} (h : Srch wide n S a 0) (ha : a < S.length) : ∀ j, Srch wide n (tilesS wide S a j) a j
  | 0 => h
  | j + 1 => (h.tiles ha j).step (Nat.lt_of_lt_of_le ha (tilesS_len _ _ _ _))

theorem can_bound {wide : Int} {xs : List Int} (h : BoardOk wide xs) {t : Int} (hc : canB wide xs t = true) : 1 ≤ t ∧ t < xs.length := ((canB_iff h).1 hc).1

theorem Srch.next {wide : Int} {n : Nat} {S : List (List Int × Int)} {a : Nat} (h : Srch wide n S a (n - 1)) (ha : a < S.length) : Srch wide n S (a + 1) 0 := by
  obtain ⟨h1, h2, h3, h4, h5, h6, h7, h8⟩ := h
  refine ⟨h1, h2, h3, h4, h5, h6, fun hl i hi => ?_, fun i t hi ht hct => ?_⟩
  · have := h7 ha i hi
    have := h6 a (a + 1) (by omega) hl
    omega
  · have hb := can_bound (h3 i hi).1 hct
    have hl := (h3 i hi).2
    refine h8 i t hi ?_ hct
    rcases ht with ht | ⟨rfl, ht⟩
    · rcases Nat.lt_or_ge i a with e | e
      · exact .inl e
      · exact .inr ⟨by omega, by omega⟩
    · omega

theorem Srch.start {wide : Int} {n : Nat} (h : BoardOk wide (ordL n)) (hl : (ordL n).length = n) : Srch wide n [(ordL n, 0)] 0 0 := by
  refine ⟨by simp, ⟨rfl, rfl⟩, fun i hi => ?_, fun i k hi hk _ => ?_, fun i h0 hi => ?_, fun i k hik hk => ?_, fun _ i hi => ?_, fun i t hi ht hct => ?_⟩
  · simp only [List.length_singleton] at hi
    obtain rfl : i = 0 := by omega
    exact ⟨h, hl⟩
  · simp only [List.length_singleton] at hi hk; omega
  · simp only [List.length_singleton] at hi; omega
  · simp only [List.length_singleton] at hk
    obtain rfl : k = 0 := by omega
    obtain rfl : i = 0 := by omega
    omega
  · simp only [List.length_singleton] at hi
    obtain rfl : i = 0 := by omega
    simp [dpS]
  · simp only [List.length_singleton] at hi
    obtain rfl : i = 0 := by omega
    have := (can_bound h hct).1
    rcases ht with ht | ⟨_, ht⟩ <;> omega

theorem round_srch {wide : Int} {n : Nat} (h : BoardOk wide (ordL n)) (hl : (ordL n).length = n) : ∀ a, a ≤ (roundS wide n a).length → Srch wide n (roundS wide n a) a 0
  | 0, _ => Srch.start h hl
  | a + 1, ha => by
    by_cases hx : a < (roundS wide n a).length
    · have ih := round_srch h hl a (by omega)
      rw [roundS_succ hx] at ha ⊢
      exact (ih.tiles hx (n - 1)).next (Nat.lt_of_lt_of_le hx (tilesS_len _ _ _ _))
    · rw [roundS, if_neg hx] at ha; omega

/-- No more boards than orders. -/
theorem Srch.len_le {wide : Int} {n : Nat} {S : List (List Int × Int)} {a j : Nat} (h : Srch wide n S a j) : S.length ≤ fct n := by
  have hr : ((List.range S.length).map fun i => rankL (bdS S i)).length ≤ fct n := by
    refine nodup_lt _ _ ?_ fun x hx => ?_
    · show List.Pairwise _ _
      rw [List.pairwise_map]
      refine List.Pairwise.imp_of_mem (fun {i k} hi hk hik e => ?_) List.nodup_range
      have hi := List.mem_range.1 hi
      have hk := List.mem_range.1 hk
      have oi := h.ok i hi
      have ok := h.ok k hk
      have di := oi.1.2.2.2.2
      have dk := ok.1.2.2.2.2
      rw [oi.2] at di
      rw [ok.2] at dk
      exact hik (h.one i k hi hk (rank_inj di dk oi.2 ok.2 e))
    · obtain ⟨i, hi, rfl⟩ := List.mem_map.1 hx
      exact rank_lt (h.ok i (List.mem_range.1 hi)).2
  simpa using hr

theorem round_stop {wide : Int} {n a : Nat} (h : (roundS wide n a).length ≤ a) : ∀ k, roundS wide n (a + k) = roundS wide n a
  | 0 => rfl
  | k + 1 => by
    have ih := round_stop h k
    rw [show a + (k + 1) = (a + k) + 1 from rfl, roundS, ih, if_neg (by omega)]

/-- What the search finds. -/
def allS (wide : Int) (n : Nat) : List (List Int × Int) := roundS wide n (fct n)

theorem allS_eq {wide : Int} {n a : Nat} (h : (roundS wide n a).length ≤ a) (ha : a ≤ fct n) : allS wide n = roundS wide n a := by
  unfold allS
  rw [show fct n = a + (fct n - a) by omega, round_stop h]

theorem allS_srch {wide : Int} {n : Nat} (h : BoardOk wide (ordL n)) (hl : (ordL n).length = n) : Srch wide n (allS wide n) (allS wide n).length 0 := by
  have key : ∀ a, a ≤ (roundS wide n a).length ∨ ∃ b, b ≤ a ∧ (roundS wide n b).length = b
    := fun a => by
      induction a with
      | zero => exact .inl (Nat.zero_le _)
      | succ a ih =>
        rcases ih with ih | ⟨b, hb, e⟩
        · by_cases hx : a < (roundS wide n a).length
          · left
            rw [roundS_succ hx]
            exact Nat.lt_of_lt_of_le hx (tilesS_len _ _ _ _)
          · exact .inr ⟨a, by omega, by omega⟩
        · exact .inr ⟨b, by omega, e⟩
  rcases key (fct n) with hk | ⟨b, hb, e⟩
  · have h1 := round_srch h hl (fct n) hk
    have h2 := h1.len_le
    have h3 : (allS wide n).length = fct n := by unfold allS; omega
    rw [h3]
    exact h1
  · rw [allS_eq (by omega) hb]
    have h1 := round_srch h hl b (by omega)
    rw [e]
    exact h1

end Go.Proofs.Ytfpckcmkikckgaa

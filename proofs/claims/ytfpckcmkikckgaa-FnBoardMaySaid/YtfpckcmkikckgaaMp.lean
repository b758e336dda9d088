/- Plain law: of the boards of one size with two sides or more each, the half can be brought into order, and those are the ones that the search finds. -/
import Derived.Test.YtfpckcmkikckgaaEv
import Derived.Test.YtfpckcmkikckgaaSx
import Derived.Test.YtfpckcmkikckgaaSl
import Derived.Test.YtfpckcmkikckgaaTp
namespace Go.Proofs.Ytfpckcmkikckgaa
open Go Go.RowKit

/-- The tiles 1 and 2, changed about. -/
def s12 (x : Int) : Int := if x = 1 then 2 else if x = 2 then 1 else x
def sw12 (xs : List Int) : List Int := xs.map s12
theorem length_sw12 (xs : List Int) : (sw12 xs).length = xs.length := by simp [sw12]
theorem s12_s12 (x : Int) : s12 (s12 x) = x := by unfold s12; split <;> split <;> omega
theorem sw12_sw12 (xs : List Int) : sw12 (sw12 xs) = xs := by
  unfold sw12
  rw [List.map_map]
  have : s12 ∘ s12 = id := funext s12_s12
  rw [this, List.map_id]

theorem nth_sw12 {xs : List Int} {k : Nat} (hk : k < xs.length) : nth (sw12 xs) k = s12 (nth xs k) := by
  rw [nth_eq hk, nth_eq (by rw [length_sw12]; exact hk)]
  simp [sw12]

theorem sw12_xch1 {xs : List Int} {p q : Nat} (hd : xs.Nodup) (hpq : p < q) (hq : q < xs.length) (h : nth xs p = 1 ∧ nth xs q = 2 ∨ nth xs p = 2 ∧ nth xs q = 1) : sw12 xs = xch xs p q := by
  refine List.ext_getElem (by rw [length_sw12, length_xch]) fun i h1 h2 => ?_
  rw [length_sw12] at h1
  have hi : ∀ j, j < xs.length → nth xs i = nth xs j → i = j := fun j hj e => by rw [nth_eq h1, nth_eq hj] at e; exact (List.getElem_inj hd).1 e
  simp only [xch, sw12, List.getElem_map, List.getElem_set]
  rw [← nth_eq h1]
  by_cases e1 : q = i
  · subst e1
    rw [if_pos rfl]
    unfold s12
    rcases h with ⟨a, b⟩ | ⟨a, b⟩ <;> rw [a, b] <;> decide
  · rw [if_neg e1]
    by_cases e2 : p = i
    · subst e2
      rw [if_pos rfl]
      unfold s12
      rcases h with ⟨a, b⟩ | ⟨a, b⟩ <;> rw [a, b] <;> decide
    · rw [if_neg e2]
      have n1 : nth xs i ≠ nth xs p := fun e => e2 (hi p (by omega) e).symm
      have n2 : nth xs i ≠ nth xs q := fun e => e1 (hi q hq e).symm
      unfold s12
      rcases h with ⟨a, b⟩ | ⟨a, b⟩ <;> rw [a] at n1 <;> rw [b] at n2 <;> simp [n1, n2]

theorem board_has {wide : Int} {xs : List Int} (h : BoardOk wide xs) {t : Nat} (ht : t < xs.length) : ∃ k, k < xs.length ∧ nth xs k = t := by
  obtain ⟨k, hk, e⟩ := List.getElem_of_mem (dis_mem h.2.2.2.2 rfl ht)
  exact ⟨k, hk, by rw [nth_eq hk]; exact e⟩

theorem sw12_xch {wide : Int} {xs : List Int} (h : BoardOk wide xs) (h3 : 3 ≤ xs.length) : ∃ p q, p < q ∧ q < xs.length ∧ sw12 xs = xch xs p q := by
  obtain ⟨p, hp, ep⟩ := board_has h (t := 1) (by omega)
  obtain ⟨q, hq, eq⟩ := board_has h (t := 2) (by omega)
  have hd := h.2.2.2.2.2
  rcases Nat.lt_trichotomy p q with hl | hl | hl
  · exact ⟨p, q, hl, hq, sw12_xch1 hd hl hq (.inl ⟨ep, eq⟩)⟩
  · subst hl; rw [ep] at eq; exact absurd eq (by decide)
  · exact ⟨q, p, hl, hp, sw12_xch1 hd hl hp (.inr ⟨eq, ep⟩)⟩

theorem zeroI_sw12 {wide : Int} {xs : List Int} (h : BoardOk wide xs) : zeroI (sw12 xs) = zeroI xs := by
  have hz := zeroI_ok h
  obtain ⟨z, hz'⟩ : ∃ z : Nat, zeroI xs = z := Int.eq_ofNat_of_zero_le hz.1
  obtain ⟨hzl, hz0⟩ := zeroI_nth h hz'
  rw [hz']
  refine zeroI_at (by rw [length_sw12]; exact hzl) (by rw [nth_sw12 hzl, hz0]; rfl) fun j hj => ?_
  rw [nth_sw12 (by omega)]
  intro e
  have e0 : nth xs j = 0 := by
    have := congrArg s12 e
    rwa [s12_s12] at this
  have := nth_inj h.2.2.2.2 (by omega) hzl (e0.trans hz0.symm)
  omega

theorem ok_sw12 {wide : Int} {xs : List Int} (h : BoardOk wide xs) (h3 : 3 ≤ xs.length) : BoardOk wide (sw12 xs) := by
  obtain ⟨p, q, h1, h2, e⟩ := sw12_xch h h3
  rw [e]; exact (odd_xch h h1 h2).1

theorem big3 {wide : Int} {xs : List Int} (h : BoardOk wide xs) (h1 : 2 ≤ wide) (h2 : 2 ≤ (xs.length : Int) / wide) : 4 ≤ xs.length := by
  have he := (sides_of h).2
  have : 2 * ((xs.length : Int) / wide) ≤ wide * ((xs.length : Int) / wide) := Int.mul_le_mul_of_nonneg_right h1 (by omega)
  omega

/-- An exchange of two tiles changes the answer. -/
theorem may_sw12 {wide : Int} {xs : List Int} (h : BoardOk wide xs) (h1 : 2 ≤ wide) (h2 : 2 ≤ (xs.length : Int) / wide) : mayB wide (sw12 xs) = !(mayB wide xs) := by
  have h3 := big3 h h1 h2
  have hok := ok_sw12 h (by omega)
  have hf : freeFarI wide (sw12 xs) = freeFarI wide xs := by rw [freeFarI_in h, freeFarI_in hok, zeroI_sw12 h, length_sw12]
  rw [mayB_in h h1 h2, mayB_in hok h1 (by rw [length_sw12]; exact h2), hf, length_sw12]
  obtain ⟨p, q, e1, e2, e⟩ := sw12_xch h (by omega)
  rw [e, (odd_xch h e1 e2).2]
  cases oddB wide xs <;> cases oddB wide (ordL xs.length) <;> cases (freeFarI wide xs % 2 == 0) <;> rfl

theorem freeFar_ordM {wide : Int} {n : Nat} (h : BoardOk wide (ordL n)) (hl : (ordL n).length = n) (h1 : 1 ≤ n) : freeFarI wide (ordL n) = 0 := by
  have hz : zeroI (ordL n) = ((n - 1 : Nat) : Int) := zeroI_at (by rw [hl]; omega) (by rw [ordL_nth (by omega), if_neg (by omega)]) fun j hj => by
    rw [ordL_nth (by omega), if_pos (by omega)]; omega
  rw [freeFarI_in h, hl, hz, show ((n - 1 : Nat) : Int) = (n : Int) - 1 by omega, farI_self]

theorem may_ord {wide : Int} {xs : List Int} (h : BoardOk wide xs) (h1 : 2 ≤ wide) (h2 : 2 ≤ (xs.length : Int) / wide) : mayB wide (ordL xs.length) = true := by
  obtain ⟨ho, hl⟩ := ord_ok h
  rw [mayB_in ho h1 (by rw [hl]; exact h2), hl, freeFar_ordM ho hl (by have := h.1; omega)]
  simp

set_option maxHeartbeats 1000000 in
theorem many_half {a b : Int} (h : SidesOk 6 a b) (h1 : 2 ≤ a) (h2 : 2 ≤ b) : 2 * manyI a b = (fct (a * b).toNat : Nat) := by
  rcases many_worst h with ⟨rfl, rfl, h3, h4⟩ | ⟨rfl, rfl, h3, h4⟩ | ⟨rfl, rfl, h3, h4⟩ | ⟨rfl, rfl, h3, h4⟩ | ⟨rfl, rfl, h3, h4⟩ | ⟨rfl, rfl, h3, h4⟩ | ⟨rfl, rfl, h3, h4⟩ | ⟨rfl, rfl, h3, h4⟩ | ⟨rfl, rfl, h3, h4⟩ | ⟨rfl, rfl, h3, h4⟩ | ⟨rfl, rfl, h3, h4⟩ | ⟨rfl, rfl, h3, h4⟩ | ⟨rfl, rfl, h3, h4⟩
  all_goals first | omega | (rw [h3]; decide)

/-- The search finds every board that can be brought into order. -/
theorem may_least {wide : Int} {xs : List Int} (h : BoardOk wide xs) (h1 : 2 ≤ wide) (h2 : 2 ≤ (xs.length : Int) / wide) (h6 : xs.length ≤ 6) : decide (0 ≤ leastI wide xs) = mayB wide xs := by
  have hs := sides6 h h6
  have hr := all_srch hs.1 hs.2
  have hmo := may_ord h h1 h2
  have hmany := many_half hs.1 h1 h2
  rw [manyI_in hs.1 hs.2, hs.2, show ((xs.length : Int)).toNat = xs.length by omega] at hmany
  have h4 := big3 h h1 h2
  obtain ⟨n, hn⟩ : ∃ n, xs.length = n := ⟨_, rfl⟩
  have hmay : ∀ i, i < (allS wide xs.length).length → mayB wide (bdS (allS wide xs.length) i) = true := fun i hi => by rw [dep_may hr i hi]; exact hmo
  cases hh : hasS (allS wide xs.length) xs with
  | true =>
    obtain ⟨i, hi, hb⟩ := hasS_iff.1 hh
    have := hmay i hi
    rw [hb] at this
    rw [this]
    have e := farS_has hr xs
    rw [hh] at e
    rw [leastI_in h h6]
    exact e.symm
  | false =>
    have e := farS_has hr xs
    rw [hh] at e
    rw [leastI_in h h6, ← e]
    refine Eq.symm (Bool.eq_false_iff.2 fun hm => ?_)
    have hnb : ∀ i, i < (allS wide xs.length).length → bdS (allS wide xs.length) i ≠ xs := fun i hi => hasS_not hh hi
    rw [hn] at hr hmany hmay hnb h2 h4
    generalize allS wide n = S at *
    have inj : ∀ a b, BoardOk wide a → BoardOk wide b → a.length = n → b.length = n → rankL a = rankL b → a = b := fun a b ha hb la lb e => by
      have da := ha.2.2.2.2
      have db := hb.2.2.2.2
      rw [la] at da
      rw [lb] at db
      exact rank_inj da db la lb e
    have ok := hr.ok
    have ok2 : ∀ i, i < S.length → BoardOk wide (sw12 (bdS S i)) ∧ (sw12 (bdS S i)).length = n := fun i hi => ⟨ok_sw12 (ok i hi).1 (by rw [(ok i hi).2]; omega), by rw [length_sw12]; exact (ok i hi).2⟩
    have no2 : ∀ i, i < S.length → mayB wide (sw12 (bdS S i)) = false := fun i hi => by
      rw [may_sw12 (ok i hi).1 h1 (by rw [(ok i hi).2]; exact h2), hmay i hi]; rfl
    have hl : ((List.range S.length).map (fun i => rankL (bdS S i)) ++ ((List.range S.length).map (fun i => rankL (sw12 (bdS S i))) ++ [rankL xs])).length ≤ fct n := by
      refine nodup_lt _ _ ?_ fun x hx => ?_
      · show List.Pairwise _ _
        rw [List.pairwise_append, List.pairwise_append]
        refine ⟨?_, ⟨?_, by simp, fun a ha b hb e => ?_⟩, fun a ha b hb e => ?_⟩
        · rw [List.pairwise_map]
          refine List.Pairwise.imp_of_mem (fun {i k} hi hk hik e => ?_) List.nodup_range
          have hi := List.mem_range.1 hi
          have hk := List.mem_range.1 hk
          exact hik (hr.one i k hi hk (inj _ _ (ok i hi).1 (ok k hk).1 (ok i hi).2 (ok k hk).2 e))
        · rw [List.pairwise_map]
          refine List.Pairwise.imp_of_mem (fun {i k} hi hk hik e => ?_) List.nodup_range
          have hi := List.mem_range.1 hi
          have hk := List.mem_range.1 hk
          have := inj _ _ (ok2 i hi).1 (ok2 k hk).1 (ok2 i hi).2 (ok2 k hk).2 e
          have := congrArg sw12 this
          rw [sw12_sw12, sw12_sw12] at this
          exact hik (hr.one i k hi hk this)
        · obtain ⟨i, hi, rfl⟩ := List.mem_map.1 ha
          have hi := List.mem_range.1 hi
          rw [List.mem_singleton.1 hb] at e
          have := inj _ _ (ok2 i hi).1 h (ok2 i hi).2 hn e
          have n2 := no2 i hi
          rw [this, hm] at n2
          cases n2
        · obtain ⟨i, hi, rfl⟩ := List.mem_map.1 ha
          have hi := List.mem_range.1 hi
          rcases List.mem_append.1 hb with hb | hb
          · obtain ⟨k, hk, rfl⟩ := List.mem_map.1 hb
            have hk := List.mem_range.1 hk
            have := inj _ _ (ok i hi).1 (ok2 k hk).1 (ok i hi).2 (ok2 k hk).2 e
            have n2 := no2 k hk
            rw [← this, hmay i hi] at n2
            cases n2
          · rw [List.mem_singleton.1 hb] at e
            exact hnb i hi (inj _ _ (ok i hi).1 h (ok i hi).2 hn e)
      · rcases List.mem_append.1 hx with hx | hx
        · obtain ⟨i, hi, rfl⟩ := List.mem_map.1 hx
          exact rank_lt (ok i (List.mem_range.1 hi)).2
        · rcases List.mem_append.1 hx with hx | hx
          · obtain ⟨i, hi, rfl⟩ := List.mem_map.1 hx
            exact rank_lt (ok2 i (List.mem_range.1 hi)).2
          · rw [List.mem_singleton.1 hx]
            exact rank_lt hn
    simp only [List.length_append, List.length_map, List.length_range, List.length_singleton] at hl
    omega

end Go.Proofs.Ytfpckcmkikckgaa

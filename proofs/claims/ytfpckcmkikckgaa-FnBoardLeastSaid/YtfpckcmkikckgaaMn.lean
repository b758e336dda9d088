/- Plain law: a move leads nearer or farther by one, and some move leads nearer. -/
import Derived.Test.YtfpckcmkikckgaaSx
import Derived.Test.YtfpckcmkikckgaaTg
import Derived.Test.YtfpckcmkikckgaaTx
namespace Go.Proofs.Ytfpckcmkikckgaa
open Go Go.RowKit

theorem least_at {wide : Int} {xs ys : List Int} {k : Nat} (h : BoardOk wide ys) (hl : ys.length = xs.length) (h6 : xs.length ≤ 6) (hr : Srch wide xs.length (allS wide xs.length) (allS wide xs.length).length 0) (hk : k < (allS wide xs.length).length) (hb : bdS (allS wide xs.length) k = ys) : leastI wide ys = dpS (allS wide xs.length) k := by
  rw [leastI_in h (by omega), hl, ← hb]
  exact farS_at hr hk

theorem least_move {wide : Int} {xs : List Int} {t : Int} (h : 0 ≤ leastI wide xs) (hc : canB wide xs t = true) : leastI wide (movedL wide xs t) = leastI wide xs + 1 ∨ leastI wide (movedL wide xs t) = leastI wide xs - 1 := by
  rcases least_cases wide xs with hl | ⟨hok, h6, i, hi, hb, hd, h0, h7, hr⟩
  · omega
  · rw [← hb] at hc
    obtain ⟨k, hk, hbk, hdk⟩ := dep_near hr hi hc
    rw [hb] at hbk
    rw [least_at (boardOk_moved hok) (length_movedL _ _ _) h6 hr hk hbk, hd]
    exact hdk

def hasN (wide : Int) (xs : List Int) (k : Nat) : Bool := (leastI wide xs == 0) || ((mayL wide xs).take k).any fun t => leastI wide (movedL wide xs t) == leastI wide xs - 1
theorem hasN_zero (wide : Int) (xs : List Int) : hasN wide xs 0 = (leastI wide xs == 0) := by simp [hasN]
theorem hasN_succ {wide : Int} {xs : List Int} {k : Nat} (h : k < (mayL wide xs).length) : hasN wide xs (k + 1) = (hasN wide xs k || (leastI wide (movedL wide xs (nth (mayL wide xs) k)) == leastI wide xs - 1)) := by
  unfold hasN
  rw [take_succ_nth h, List.any_append, Bool.or_assoc]
  simp
theorem hasN_full {wide : Int} {xs : List Int} (h : 0 ≤ leastI wide xs) : hasN wide xs (mayL wide xs).length = true := by
  unfold hasN
  rw [List.take_length]
  rcases least_cases wide xs with hl | ⟨hok, h6, i, hi, hb, hd, h0, h7, hr⟩
  · omega
  · by_cases hz : leastI wide xs = 0
    · simp [hz]
    · have hi0 : 0 < i := Nat.pos_of_ne_zero fun e => hz (by rw [hd]; exact (dep_zero hr hi).2 e)
      obtain ⟨t, k, hc, hk, hbk, hdk⟩ := dep_nearer hr hi hi0
      rw [hb] at hc hbk
      have e := least_at (boardOk_moved hok) (length_movedL _ _ _) h6 hr hk hbk
      rw [Bool.or_eq_true, List.any_eq_true]
      exact .inr ⟨t, can_may hc, by rw [e, hdk, hd]; simp⟩

end Go.Proofs.Ytfpckcmkikckgaa

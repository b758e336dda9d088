/- sameBoard. -/
import Derived.Test.YtaepoddlhghdpaaBd
import Derived.Test.YtaepoddlhghdpaaSi
namespace Go.Proofs.Ytaepoddlhghdpaa
open Go Go.RowKit

set_option maxRecDepth 100000 in
theorem sameBoard_any (wa wb : Int) (ao bo : Option Addr) (xs ys : List Int) (n m c d : Nat) (w : World) (hn : xs.length = n) (hm : ys.length = m) (hl : n ≤ 9223372036854775807) (hx : IntsAt w ao xs) (hy : IntsAt w bo ys) :
    Calls Try.prog 19 #[.agg #[.int .i64 wa, .slice ao n c], .agg #[.int .i64 wb, .slice bo m d]] w fun e w' => e = .returned (.bool (eqBd wa xs wb ys)) ∧ Below w.heap.size w w' := by
  have HN := hid hn
  have HM := hid hm
  clear hn hm
  have B := ((Below.refl w.heap.size w).alloc (Nat.le_refl _) (.cells #[.int .i64 wa, .slice ao n c] 27)).alloc (by simp) (.cells #[.int .i64 wb, .slice bo m d] 27)
  by_cases hw : wa = wb
  · subst hw
    have hb0 : (wa == wa) = true := by simp
    have hx1 := hx.below B (Nat.le_refl _)
    have hy1 := hy.below B (Nat.le_refl _)
    have heq : Hid (eqBd wa xs wa ys = eqL xs ys) := by simp [Hid, eqBd]
    cases he : eqL xs ys with
    | true =>
      go_enter Try.func19, Try.ntmps19
      go_wp2_with fail
      refine (sameInts_any ao bo xs ys n m c d _ HN.out HM.out hl hx1 hy1).mono fun e w1 h => ?_
      rw [he] at h
      obtain ⟨rfl, hq⟩ := h
      go_wp2_with fail
      go_ret
      exact ⟨by rw [heq.out]; exact ret_bool he.symm, B.trans (hq.below _)⟩
    | false =>
      go_enter Try.func19, Try.ntmps19
      go_wp2_with fail
      refine (sameInts_any ao bo xs ys n m c d _ HN.out HM.out hl hx1 hy1).mono fun e w1 h => ?_
      rw [he] at h
      obtain ⟨rfl, hq⟩ := h
      go_wp2_with fail
      go_ret
      exact ⟨by rw [heq.out]; exact ret_bool he.symm, B.trans (hq.below _)⟩
  · have hb0 : (wa == wb) = false := by simp [hw]
    have hfin : Hid (eqBd wa xs wb ys = false) := by simp [Hid, eqBd, hw]
    clear hw
    go_enter Try.func19, Try.ntmps19
    go_wp2
    go_ret
    exact ⟨by rw [hfin.out]; rfl, B⟩

theorem sameBoard_self (wa : Int) (ao bo : Option Addr) (xs : List Int) (n c d : Nat) (w : World) (hn : xs.length = n) (hl : n ≤ 9223372036854775807) (hx : IntsAt w ao xs) (hy : IntsAt w bo xs) :
    Calls Try.prog 19 #[.agg #[.int .i64 wa, .slice ao n c], .agg #[.int .i64 wa, .slice bo n d]] w fun e w' => e = .returned (.bool true) ∧ Below w.heap.size w w' :=
  (sameBoard_any wa wa ao bo xs xs n n c d w hn hn hl hx hy).mono fun _ _ h => by rw [eqBd_self] at h; exact h

end Go.Proofs.Ytaepoddlhghdpaa

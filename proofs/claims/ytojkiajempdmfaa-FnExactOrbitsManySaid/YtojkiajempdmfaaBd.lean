/- The walks of the helpers on boards: szIntS, szBoard, toBoard, eqBoard, markBoard, heldBoard. -/
import Derived.Test.YtojkiajempdmfaaInts
namespace Go.Proofs.Ytojkiajempdmfaa
open Go Go.RowKit

/-- What is left of a budget. -/
def szV (left : Int) (n : Nat) : Int := if left < n then -1 else left - n
theorem szV_le {left : Int} {n : Nat} (h : ¬ szV left n < 0) : (n : Int) ≤ left := by unfold szV at h; split at h <;> omega

set_option maxRecDepth 100000 in
theorem szIntS_any (ao : Option Addr) (n c : Nat) (left : Int) (w : World) (hl : n ≤ 9223372036854775807) (h0 : 0 ≤ left) (h1 : left ≤ 17592186044416) :
    Calls Try.prog 23 #[.slice ao n c, .int .i64 left] w fun e w' => e = .returned (.int .i64 (szV left n)) ∧ w = w' := by
  by_cases h : left < n
  · have hv : Hid (szV left n = -1) := if_pos h
    have hd : decide (left - n < 0) = true := decide_eq_true (by omega)
    go_enter Try.func23, Try.ntmps23
    go_wp2
    go_ret
    exact ⟨by rw [hv.out]; rfl, rfl⟩
  · have hv : Hid (szV left n = left - n) := if_neg h
    have hd : decide (left - n < 0) = false := decide_eq_false (by omega)
    go_enter Try.func23, Try.ntmps23
    go_wp2
    go_ret
    exact ⟨by rw [hv.out]; rfl, rfl⟩

/-- Equality of boards. -/
def eqBd (wa : Int) (xs : List Int) (wb : Int) (ys : List Int) : Bool := decide (wa = wb) && eqL xs ys
theorem eqBd_self (wa : Int) (xs : List Int) : eqBd wa xs wa xs = true := by simp [eqBd, eqL_self]

end Go.Proofs.Ytojkiajempdmfaa

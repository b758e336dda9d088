/- The walks of the helpers on boards: szIntS, szBoard, toBoard, eqBoard, markBoard, heldBoard. -/
import Derived.Test.YtfpckcmkikckgaaInts
namespace Go.Proofs.Ytfpckcmkikckgaa
open Go Go.RowKit

/-- What is left of a budget. -/
def szV (left : Int) (n : Nat) : Int := if left < n then -1 else left - n
theorem szV_le {left : Int} {n : Nat} (h : ¬ szV left n < 0) : (n : Int) ≤ left := by unfold szV at h; split at h <;> omega

/-- Equality of boards. -/
def eqBd (wa : Int) (xs : List Int) (wb : Int) (ys : List Int) : Bool := decide (wa = wb) && eqL xs ys
theorem eqBd_self (wa : Int) (xs : List Int) : eqBd wa xs wa xs = true := by simp [eqBd, eqL_self]

end Go.Proofs.Ytfpckcmkikckgaa

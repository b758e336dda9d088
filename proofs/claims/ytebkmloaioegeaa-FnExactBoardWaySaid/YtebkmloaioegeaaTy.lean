/- The walks of BoardMay, the program's and the reference's. -/
import Derived.Test.YtebkmloaioegeaaTm
import Derived.Test.YtebkmloaioegeaaBn
import Derived.Deep.RegionHeld3
namespace Go.Proofs.Ytebkmloaioegeaa
open Go Go.RowKit

/-- Can it be brought into order? -/
def mayB (wide : Int) (xs : List Int) : Bool :=
  if BoardOk wide xs ∧ 2 ≤ wide ∧ 2 ≤ (xs.length : Int) / wide then (oddB wide xs == oddB wide (ordL xs.length)) == (freeFarI wide xs % 2 == 0) else false
theorem mayB_in {wide : Int} {xs : List Int} (h : BoardOk wide xs) (h1 : 2 ≤ wide) (h2 : 2 ≤ (xs.length : Int) / wide) :
    mayB wide xs = ((oddB wide xs == oddB wide (ordL xs.length)) == (freeFarI wide xs % 2 == 0)) := if_pos ⟨h, h1, h2⟩
theorem mayB_out {wide : Int} {xs : List Int} (h : ¬ (BoardOk wide xs ∧ 2 ≤ wide ∧ 2 ≤ (xs.length : Int) / wide)) : mayB wide xs = false := if_neg h

theorem sides_of {wide : Int} {xs : List Int} (h : BoardOk wide xs) : SidesOk 9 wide ((xs.length : Int) / wide) ∧ wide * ((xs.length : Int) / wide) = xs.length := by
  have h1 : wide * ((xs.length : Int) / wide) = xs.length := by have := Int.emod_add_mul_ediv (xs.length : Int) wide; rw [h.2.2.2.1] at this; omega
  have h2 := h.1
  have h3 := h.2.1
  have h4 := h.2.2.1
  have h5 : 0 ≤ (xs.length : Int) / wide := Int.ediv_nonneg (by omega) (by omega)
  have h6 : (xs.length : Int) / wide ≤ xs.length := Int.ediv_le_self _ (by omega)
  have h7 : (xs.length : Int) / wide ≠ 0 := fun e => by rw [e, Int.mul_zero] at h1; omega
  have h8 : wide ≤ xs.length := Int.le_of_dvd (by omega) (Int.dvd_of_emod_eq_zero h.2.2.2.1)
  exact ⟨⟨⟨h4, by omega⟩, ⟨by omega, by omega⟩, by omega, by omega⟩, h1⟩

theorem freeFarI_nonneg {wide : Int} {xs : List Int} (h : BoardOk wide xs) : 0 ≤ freeFarI wide xs ∧ freeFarI wide xs ≤ 100 := by
  have hz := zeroI_ok h
  have h2 := h.2.1
  have := farI_bounds h.2.2.1 hz.1 (show (0 : Int) ≤ xs.length - 1 by omega)
  rw [freeFarI_in h]
  omega

end Go.Proofs.Ytebkmloaioegeaa

/- The walks of BoardOdd, the program's and the reference's. -/
import Derived.Test.YtaepoddlhghdpaaTf
import Derived.Deep.QuietTactic
import Derived.BigQuiet
namespace Go.Proofs.Ytaepoddlhghdpaa
open Go Go.RowKit

/-- f 0 + .. + f (n - 1). -/
def sumTo (f : Nat → Nat) : Nat → Nat
  | 0 => 0
  | n + 1 => sumTo f n + f n

theorem sumTo_zero (f : Nat → Nat) : sumTo f 0 = 0 := rfl
theorem sumTo_succ (f : Nat → Nat) (n : Nat) : sumTo f (n + 1) = sumTo f n + f n := rfl
theorem sumTo_congr {f g : Nat → Nat} {n : Nat} (h : ∀ j, j < n → f j = g j) : sumTo f n = sumTo g n := by
  induction n with
  | zero => rfl
  | succ n ih => rw [sumTo_succ, sumTo_succ, ih (fun j hj => h j (by omega)), h n (by omega)]
theorem sumTo_add (f g : Nat → Nat) (n : Nat) : sumTo (fun j => f j + g j) n = sumTo f n + sumTo g n := by
  induction n with
  | zero => rfl
  | succ n ih => simp only [sumTo_succ, ih]; omega
theorem sumTo_const (c n : Nat) : sumTo (fun _ => c) n = n * c := by
  induction n with
  | zero => simp [sumTo]
  | succ n ih => rw [sumTo_succ, ih, Nat.succ_mul]
theorem sumTo_le {f : Nat → Nat} {c n : Nat} (h : ∀ j, j < n → f j ≤ c) : sumTo f n ≤ n * c := by
  induction n with
  | zero => simp [sumTo]
  | succ n ih => rw [sumTo_succ, Nat.succ_mul]; have := ih (fun j hj => h j (by omega)); have := h n (by omega); omega
theorem sumTo_shift (f : Nat → Nat) (a b : Nat) : sumTo f (a + b) = sumTo f a + sumTo (fun j => f (a + j)) b := by
  induction b with
  | zero => simp [sumTo]
  | succ b ih => rw [← Nat.add_assoc, sumTo_succ, ih, sumTo_succ, Nat.add_assoc]
theorem sumTo_comm (a : Nat → Nat → Nat) (n m : Nat) : sumTo (fun i => sumTo (a i) m) n = sumTo (fun j => sumTo (fun i => a i j) n) m := by
  induction n with
  | zero => simp only [sumTo_zero]; rw [sumTo_const]; simp
  | succ n ih => simp only [sumTo_succ]; rw [ih, ← sumTo_add]
theorem sumTo_none {f : Nat → Nat} {n : Nat} (h : ∀ j, j < n → f j = 0) : sumTo f n = 0 := by
  rw [sumTo_congr h, sumTo_const]; simp

/-- Is the number at i greater than that at j? -/
def gt1 (xs : List Int) (i j : Nat) : Nat := if nth xs j < nth xs i then 1 else 0
theorem gt1_le (xs : List Int) (i j : Nat) : gt1 xs i j ≤ 1 := by unfold gt1; split <;> omega

/-- Pairs, counted by their first places: those of the first k places. -/
def invR (xs : List Int) (k : Nat) : Nat := sumTo (fun i => sumTo (fun j => gt1 xs i (i + 1 + j)) (xs.length - (i + 1))) k
/-- .. by their second places. -/
def invC (xs : List Int) (k : Nat) : Nat := sumTo (fun i => sumTo (fun j => gt1 xs j i) i) k

theorem inv_eq (xs : List Int) : invR xs xs.length = invC xs xs.length := by
  have h1 : invR xs xs.length = sumTo (fun i => sumTo (fun j => if i < j then gt1 xs i j else 0) xs.length) xs.length := by
    unfold invR
    refine sumTo_congr fun i hi => ?_
    rw [show xs.length = (i + 1) + (xs.length - (i + 1)) from by omega, sumTo_shift, sumTo_none (n := i + 1), Nat.zero_add]
    · have : i + 1 + (xs.length - (i + 1)) - (i + 1) = xs.length - (i + 1) := by omega
      rw [this]
      exact sumTo_congr fun j _ => by rw [if_pos (by omega)]
    · exact fun j hj => if_neg (by omega)
  have h2 : invC xs xs.length = sumTo (fun i => sumTo (fun j => if j < i then gt1 xs j i else 0) xs.length) xs.length := by
    unfold invC
    refine sumTo_congr fun i hi => ?_
    rw [show sumTo (fun j => if j < i then gt1 xs j i else 0) xs.length = sumTo (fun j => if j < i then gt1 xs j i else 0) (i + (xs.length - i)) from by rw [show i + (xs.length - i) = xs.length from by omega], sumTo_shift]
    rw [sumTo_none (n := xs.length - i) (fun j hj => if_neg (by omega)), Nat.add_zero]
    exact sumTo_congr fun j hj => by rw [if_pos hj]
  rw [h1, h2, sumTo_comm]

theorem invR_le (xs : List Int) (k : Nat) (hl : xs.length ≤ 9) : invR xs k ≤ k * 9 :=
  sumTo_le fun i _ => Nat.le_trans (sumTo_le fun j _ => gt1_le _ _ _) (by omega)
theorem invC_le (xs : List Int) (k : Nat) (hk : k ≤ 9) : invC xs k ≤ k * 9 :=
  sumTo_le fun i hi => Nat.le_trans (sumTo_le fun j _ => gt1_le _ _ _) (by omega)
theorem invR_succ (xs : List Int) (k : Nat) : invR xs (k + 1) = invR xs k + sumTo (fun j => gt1 xs k (k + 1 + j)) (xs.length - (k + 1)) := rfl
theorem invC_succ (xs : List Int) (k : Nat) : invC xs (k + 1) = invC xs k + sumTo (fun j => gt1 xs j k) k := rfl

/-- Is the number of pairs odd? -/
def oddN (m : Nat) : Bool := m % 2 == 1
def oddB (wide : Int) (xs : List Int) : Bool := boardB wide xs && oddN (invR xs xs.length)
theorem oddB_in {wide : Int} {xs : List Int} (h : boardB wide xs = true) : oddB wide xs = oddN (invR xs xs.length) := by simp [oddB, h]
theorem oddB_out {wide : Int} {xs : List Int} (h : boardB wide xs = false) : oddB wide xs = false := by simp [oddB, h]
theorem oddN_int (m : Nat) : ((m : Int) % 2 == 1) = oddN m := by unfold oddN; rw [Bool.eq_iff_iff]; simp only [beq_iff_eq]; omega

theorem oddB_spec {wide : Int} {xs : List Int} (h : boardB wide xs = true) : oddB wide xs = oddN (invC xs xs.length) := by rw [oddB_in h, inv_eq]

end Go.Proofs.Ytaepoddlhghdpaa

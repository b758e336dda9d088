/- The walks of the small helpers on lists of int: l1In, l1Has, eqIntS, markIntS, heldIntS, toIntS. -/
import Derived.Test.YtgmjffplinpobaaBase
import Derived.Deep.QuietTactic
import Derived.BigQuiet
namespace Go.Proofs.Ytgmjffplinpobaa
open Go Go.RowKit

def inR (lo hi n : Int) : Bool := decide (lo ≤ n) && decide (n ≤ hi)

theorem l1In_any (n lo hi : Int) (w : World) :
    Calls Try.prog 41 #[.int .i64 n, .int .i64 lo, .int .i64 hi] w fun e w' => e = .returned (.bool (inR lo hi n)) ∧ w = w' := by
  by_cases h1 : lo ≤ n
  · go_enter Try.func41, Try.ntmps41
    go_wp2
    go_ret
    exact ⟨by simp [inR]; try omega, rfl⟩
  · go_enter Try.func41, Try.ntmps41
    go_wp2
    go_ret
    exact ⟨by simp [inR]; try omega, rfl⟩

def hasL (xs : List Int) (n : Int) : Bool := xs.contains n

theorem hasL_take_succ (xs : List Int) (k : Nat) (n : Int) (h : k < xs.length) : hasL (xs.take (k + 1)) n = (hasL (xs.take k) n || (nth xs k == n)) := by
  rw [nth_eq h, Bool.eq_iff_iff]
  simp only [hasL, List.take_add_one, h, List.getElem?_eq_getElem, Option.toList_some, List.contains_iff_mem, List.mem_append, Bool.or_eq_true, beq_iff_eq, List.mem_singleton]
  constructor
  · rintro (h | h)
    · exact .inl h
    · exact .inr h.symm
  · rintro (h | h)
    · exact .inl h
    · exact .inr h.symm

theorem hasL_of_nth {xs : List Int} {k : Nat} {n : Int} (h : k < xs.length) (e : nth xs k = n) : hasL xs n = true := by
  have := nth_mem h
  rw [e] at this
  simpa [hasL] using this

theorem eqL_false_len {xs ys : List Int} (h : xs.length ≠ ys.length) : eqL xs ys = false := by
  simp only [eqL, decide_eq_false_iff_not]
  exact fun e => h (by rw [e])

theorem eqL_false_at {xs ys : List Int} {k : Nat} (h : nth xs k ≠ nth ys k) : eqL xs ys = false := by
  simp only [eqL, decide_eq_false_iff_not]
  exact fun e => h (by rw [e])

theorem eqL_true_all {xs ys : List Int} (hl : xs.length = ys.length) (h : ∀ j, j < xs.length → nth xs j = nth ys j) : eqL xs ys = true := by
  simp only [eqL, decide_eq_true_eq]
  exact ext_nth hl h

def markL (xs : List Int) (k0 : Int) (i : Nat) : List Int := iota k0 i ++ xs.drop i
theorem length_markL (xs : List Int) (k0 : Int) (i : Nat) (h : i ≤ xs.length) : (markL xs k0 i).length = xs.length := by simp [markL, length_iota]; omega
theorem markL_step (xs : List Int) (k0 : Int) (i : Nat) (h : i < xs.length) : (markL xs k0 i).set i (k0 + i) = markL xs k0 (i + 1) := by
  unfold markL
  rw [List.set_append_right _ _ (by rw [length_iota]; exact Nat.le_refl _), length_iota, Nat.sub_self, List.drop_eq_getElem_cons h, List.set_cons_zero]
  simp [iota, List.range_succ]

end Go.Proofs.Ytgmjffplinpobaa

/- The walk of the law FnBoardWorst. -/
import Derived.Test.YtebkmloaioegeaaEv
import Derived.Test.YtebkmloaioegeaaAl
import Derived.Test.YtebkmloaioegeaaDi
namespace Go.Proofs.Ytebkmloaioegeaa
open Go Go.RowKit

theorem sides_sym {a b : Int} (h : SidesOk 6 a b) : SidesOk 6 b a := ⟨h.2.1, h.1, by rw [Int.mul_comm]; exact h.2.2⟩

set_option maxHeartbeats 1000000 in
theorem worst_sym {a b : Int} (h : SidesOk 6 a b) : worstI b a = worstI a b := by
  have h2 := many_worst (sides_sym h)
  rcases many_worst h with ⟨rfl, rfl, h3, h4⟩ | ⟨rfl, rfl, h3, h4⟩ | ⟨rfl, rfl, h3, h4⟩ | ⟨rfl, rfl, h3, h4⟩ | ⟨rfl, rfl, h3, h4⟩ | ⟨rfl, rfl, h3, h4⟩ | ⟨rfl, rfl, h3, h4⟩ | ⟨rfl, rfl, h3, h4⟩ | ⟨rfl, rfl, h3, h4⟩ | ⟨rfl, rfl, h3, h4⟩ | ⟨rfl, rfl, h3, h4⟩ | ⟨rfl, rfl, h3, h4⟩ | ⟨rfl, rfl, h3, h4⟩
  all_goals omega

set_option maxHeartbeats 1000000 in
theorem worst_law {a b : Int} (h : SidesOk 6 a b) : 0 ≤ worstI a b ∧ worstI a b ≤ 21 ∧ ((1 < a ∧ 1 < b) ∨ worstI a b = a * b - 1) := by
  rcases many_worst h with ⟨rfl, rfl, h3, h4⟩ | ⟨rfl, rfl, h3, h4⟩ | ⟨rfl, rfl, h3, h4⟩ | ⟨rfl, rfl, h3, h4⟩ | ⟨rfl, rfl, h3, h4⟩ | ⟨rfl, rfl, h3, h4⟩ | ⟨rfl, rfl, h3, h4⟩ | ⟨rfl, rfl, h3, h4⟩ | ⟨rfl, rfl, h3, h4⟩ | ⟨rfl, rfl, h3, h4⟩ | ⟨rfl, rfl, h3, h4⟩ | ⟨rfl, rfl, h3, h4⟩ | ⟨rfl, rfl, h3, h4⟩
  all_goals omega

set_option maxRecDepth 100000 in
set_option maxHeartbeats 2000000 in
theorem fnBoardWorst_walk (w : World) (ao : Option Addr) (bs : List Int) (l c : Nat) (hn : bs.length = l) (hlc : l ≤ c) (hcm : c ≤ 9223372036854775807) (hx : BytesAt w ao bs) (h8 : B8 bs) :
    Calls Try.prog 8 #[.slice ao l c] w fun e w' => e = .returned (.bool true) ∧ Below w.heap.size w w' := by
  by_cases hbig : 1048576 < l
  · have hd : decide ((1048576 : Int) < l) = true := decide_eq_true (by omega)
    clear hx hn h8
    go_enter Try.func8, Try.ntmps8
    go_wp2
    go_ret
    exact ⟨rfl, Below.refl _ _⟩
  have hd : decide ((1048576 : Int) < l) = false := decide_eq_false (by omega)
  go_enter Try.func8, Try.ntmps8
  go_wp2_with fail
  refine (drawBoardWorst_any ao bs l c w hn hlc hcm hx h8).mono fun e w1 h => ?_
  obtain ⟨a, b, rfl, ha, hb, B⟩ := h
  clear hx h8 hn hd hbig
  go_wp2_with fail
  refine (implBoardWorst_any a b w1).mono fun e w2 h => ?_
  obtain ⟨rfl, bb⟩ := h
  have B := B.trans (bb.mono B.size)
  clear bb
  go_wp2_with fail
  refine (specBoardWorst_any a b w2).mono fun e w3 h => ?_
  obtain ⟨rfl, bb⟩ := h
  have B := B.trans (bb.mono B.size)
  clear bb
  have hb0 : (worstI a b != worstI a b) = false := by simp
  by_cases hs : SidesOk 6 a b
  · obtain ⟨l0, l1, l2⟩ := worst_law hs
    have hsy := hid (worst_sym hs)
    have hp := mul_bounds hs.1 hs.2.1
    have hpw : IntKind.i64.wrap (a * b) = a * b := IntWalk.i64_in _ (by omega)
    clear hs
    generalize worstI a b = n at *
    have hd1 : decide (n < 0) = false := decide_eq_false (by omega)
    have hbb : (n == n) = true := by simp
    by_cases h1 : 1 < a
    · have hd2 : decide ((1 : Int) < a) = true := decide_eq_true h1
      by_cases h2 : 1 < b
      · have hd3 : decide ((1 : Int) < b) = true := decide_eq_true h2
        go_wp2_with fail
        refine (implBoardWorst_any b a w3).mono fun e w4 h => ?_
        rw [hsy.out] at h
        obtain ⟨rfl, bb⟩ := h
        have B := B.trans (bb.mono B.size)
        clear bb
        go_wp2
        go_ret
        exact ⟨rfl, B⟩
      · have hd3 : decide ((1 : Int) < b) = false := decide_eq_false h2
        have hq : n = a * b - 1 := by omega
        have hqq : (n == a * b - 1) = true := by simpa using hq
        clear hq
        go_wp2_with fail
        refine (implBoardWorst_any b a w3).mono fun e w4 h => ?_
        rw [hsy.out] at h
        obtain ⟨rfl, bb⟩ := h
        have B := B.trans (bb.mono B.size)
        clear bb
        go_wp2
        go_ret
        exact ⟨rfl, B⟩
    · have hd2 : decide ((1 : Int) < a) = false := decide_eq_false h1
      have hq : n = a * b - 1 := by omega
      have hqq : (n == a * b - 1) = true := by simpa using hq
      clear hq
      go_wp2_with fail
      refine (implBoardWorst_any b a w3).mono fun e w4 h => ?_
      rw [hsy.out] at h
      obtain ⟨rfl, bb⟩ := h
      have B := B.trans (bb.mono B.size)
      clear bb
      go_wp2
      go_ret
      exact ⟨rfl, B⟩
  · have hv := worstI_out hs
    rw [hv] at *
    clear hs hv
    go_wp2_with fail
    refine (alive_any w3).mono fun e w4 h => ?_
    obtain ⟨rfl, bb⟩ := h
    have B := B.trans (bb.mono B.size)
    clear bb
    go_wp2
    go_ret
    exact ⟨rfl, B⟩

end Go.Proofs.Ytebkmloaioegeaa

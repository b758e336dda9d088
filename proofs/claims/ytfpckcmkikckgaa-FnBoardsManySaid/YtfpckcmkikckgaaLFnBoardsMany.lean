/- The walk of the law FnBoardsMany. -/
import Derived.Test.YtfpckcmkikckgaaEv
import Derived.Test.YtfpckcmkikckgaaAl
import Derived.Test.YtfpckcmkikckgaaDi
namespace Go.Proofs.Ytfpckcmkikckgaa
open Go Go.RowKit

theorem fct_next {f q : Nat} (h : f * q = fct q) : f * q * (q + 1) = fct (q + 1) := by
  rw [h, fct, Nat.mul_comm]
theorem fct_last {f q : Nat} (h : f * (q + 1) = fct (q + 1)) : f = fct q := by
  rw [fct, Nat.mul_comm] at h
  exact Nat.eq_of_mul_eq_mul_left (by omega) h

set_option maxHeartbeats 1000000 in
theorem many_law {a b : Int} (h : SidesOk 6 a b) : 0 ≤ manyI a b ∧ manyI a b ≤ 720 ∧ ((2 ≤ a ∧ 2 ≤ b ∧ 2 * manyI a b = (fct (a * b).toNat : Nat)) ∨ ((a = 1 ∨ b = 1) ∧ manyI a b = a * b)) := by
  rcases many_worst h with ⟨rfl, rfl, h3, h4⟩ | ⟨rfl, rfl, h3, h4⟩ | ⟨rfl, rfl, h3, h4⟩ | ⟨rfl, rfl, h3, h4⟩ | ⟨rfl, rfl, h3, h4⟩ | ⟨rfl, rfl, h3, h4⟩ | ⟨rfl, rfl, h3, h4⟩ | ⟨rfl, rfl, h3, h4⟩ | ⟨rfl, rfl, h3, h4⟩ | ⟨rfl, rfl, h3, h4⟩ | ⟨rfl, rfl, h3, h4⟩ | ⟨rfl, rfl, h3, h4⟩ | ⟨rfl, rfl, h3, h4⟩
  all_goals rw [h3]
  all_goals decide

set_option maxRecDepth 100000 in
set_option maxHeartbeats 2000000 in
theorem fnBoardsMany_walk (w : World) (ao : Option Addr) (bs : List Int) (l c : Nat) (hn : bs.length = l) (hlc : l ≤ c) (hcm : c ≤ 9223372036854775807) (hx : BytesAt w ao bs) (h8 : B8 bs) :
    Calls Try.prog 5 #[.slice ao l c] w fun e w' => e = .returned (.bool true) ∧ Below w.heap.size w w' := by
  by_cases hbig : 1048576 < l
  · have hd : decide ((1048576 : Int) < l) = true := decide_eq_true (by omega)
    clear hx hn h8
    go_enter Try.func5, Try.ntmps5
    go_wp2
    go_ret
    exact ⟨rfl, Below.refl _ _⟩
  have hd : decide ((1048576 : Int) < l) = false := decide_eq_false (by omega)
  go_enter Try.func5, Try.ntmps5
  go_wp2_with fail
  refine (drawBoardsMany_any ao bs l c w hn hlc hcm hx h8).mono fun e w1 h => ?_
  obtain ⟨a, b, rfl, ha, hb, B⟩ := h
  clear hx h8 hn hd hbig
  go_wp2_with fail
  refine (implBoardsMany_any a b w1).mono fun e w2 h => ?_
  obtain ⟨rfl, bb⟩ := h
  have B := B.trans (bb.mono B.size)
  clear bb
  go_wp2_with fail
  refine (specBoardsMany_any a b w2).mono fun e w3 h => ?_
  obtain ⟨rfl, bb⟩ := h
  have B := B.trans (bb.mono B.size)
  clear bb
  have hb0 : (manyI a b != manyI a b) = false := by simp
  by_cases hs : SidesOk 6 a b
  · obtain ⟨l0, l1, l2⟩ := many_law hs
    have hp := mul_bounds hs.1 hs.2.1
    have hpw : IntKind.i64.wrap (a * b) = a * b := IntWalk.i64_in _ (by omega)
    have hh := hs.2.2
    have hs1 := hs.1
    have hs2 := hs.2.1
    clear hs
    obtain ⟨N, hN⟩ : ∃ N : Nat, a * b = N := ⟨(a * b).toNat, by omega⟩
    rw [hN] at l2 hpw hp hh
    have hN6 : N ≤ 6 := by omega
    have hN2 : 2 ≤ N := by omega
    have htn : ((N : Int)).toNat = N := by omega
    rw [htn] at l2
    have hab := hid hN
    have hl2 := hid l2
    clear l2 htn hp
    generalize manyI a b = n at *
    have hd1 : decide (n < 0) = false := decide_eq_false (by omega)
    go_wp2_with fail
    go_loopw [6, 7] (fun mv kv wr => ∃ q f : Nat, kv = .int .i64 q ∧ 2 ≤ q ∧ q ≤ N + 1 ∧ mv = .int .i64 f ∧ Hid (f * q = fct q) ∧ f ≤ 720 ∧ wr = w3) (fun _ kv _ => N + 1 - (intOf kv).toNat)
    case atStart => exact ⟨2, 1, rfl, by omega, by omega, rfl, rfl, by omega, rfl⟩
    case round =>
      obtain ⟨q, f, rfl, hq2, hqN, rfl, hf, hf7, rfl⟩ := hrel
      by_cases hlt : q ≤ N
      · have hd2 : decide ((q : Int) ≤ N) = true := decide_eq_true (by omega)
        have hfl := fct_le (n := q) (by omega)
        have hnx := hid (fct_next hf.out)
        rw [← hf.out] at hfl
        clear hf hl2
        have hmw : IntKind.i64.wrap ((f : Int) * q) = ((f * q : Nat) : Int) := by rw [← Int.natCast_mul]; exact IntWalk.i64_in _ (by omega)
        generalize f * q = g at *
        go_wp2
        go_roundw
        case rel => exact ⟨q + 1, g, by go_num, by omega, by omega, rfl, hnx.out, by omega, trivial⟩
        case measure => simp [intOf]; omega
      · obtain rfl : q = N + 1 := by omega
        have hd2 : decide (((N + 1 : Nat) : Int) ≤ N) = false := decide_eq_false (by omega)
        have hfN := fct_last hf.out
        have hl2 := hl2.out
        rw [← hfN] at hl2
        clear hf hfN
        have hw2 : IntKind.i64.wrap (2 * n) = 2 * n := IntWalk.i64_in _ (by omega)
        rcases hl2 with ⟨p1, p2, p3⟩ | ⟨p1, p3⟩
        · have da : decide ((2 : Int) ≤ a) = true := decide_eq_true p1
          have db : decide ((2 : Int) ≤ b) = true := decide_eq_true p2
          have ee : (2 * n == (f : Int)) = true := by rw [p3]; simp
          clear p3
          go_wp2
          go_ret
          exact ⟨rfl, B⟩
        · have en : (n == (N : Int)) = true := by rw [p3]; simp
          clear p3
          by_cases ha2 : 2 ≤ a
          · have da : decide ((2 : Int) ≤ a) = true := decide_eq_true ha2
            have db : decide ((2 : Int) ≤ b) = false := decide_eq_false (by omega)
            have ea : (a == 1) = false := by simp; omega
            have eb : (b == 1) = true := by simp; omega
            clear p1
            go_wp2
            go_ret
            exact ⟨rfl, B⟩
          · have da : decide ((2 : Int) ≤ a) = false := decide_eq_false ha2
            have ea : (a == 1) = true := by simp; omega
            clear p1
            go_wp2
            go_ret
            exact ⟨rfl, B⟩
  · have hv := manyI_out hs
    rw [hv] at *
    clear hs hv
    go_wp2_with fail
    refine (alive_any w3).mono fun e w4 h => ?_
    obtain ⟨rfl, bb⟩ := h
    have B := B.trans (bb.mono B.size)
    clear bb
    go_wp2
    go_ret
    exact ⟨rfl, B⟩

end Go.Proofs.Ytfpckcmkikckgaa

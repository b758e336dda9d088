/- The walk of the law FnFreePlace. -/
import Derived.Test.YtajfanncdfdalaaTr
import Derived.Test.YtajfanncdfdalaaAl
import Derived.Test.YtajfanncdfdalaaDd
namespace Go.Proofs.Ytajfanncdfdalaa
open Go Go.RowKit

theorem freePlace_law {wide : Int} {xs : List Int} (h : BoardOk wide xs) : ∃ z : Nat, freeI wide xs = z ∧ z < xs.length ∧ ∀ k, k < xs.length → ((nth xs k == 0) == ((k : Int) == z)) = true := by
  have hz := zeroI_ok h
  obtain ⟨z, hz'⟩ : ∃ z : Nat, zeroI xs = z := Int.eq_ofNat_of_zero_le hz.1
  obtain ⟨hzl, hz0⟩ := zeroI_nth h hz'
  refine ⟨z, by rw [freeI_in h, hz'], hzl, fun k hk => ?_⟩
  have e : (nth xs k == 0) = ((k : Int) == z) := by
    rw [Bool.eq_iff_iff, beq_iff_eq, beq_iff_eq]
    constructor
    · intro e; have := nth_inj h.2.2.2.2 hk hzl (e.trans hz0.symm); omega
    · intro e; have : k = z := by omega
      subst this; exact hz0
  rw [e]; simp

set_option maxRecDepth 100000 in
set_option maxHeartbeats 2000000 in
theorem fnFreePlace_walk (w : World) (ao : Option Addr) (bs : List Int) (l c : Nat) (hn : bs.length = l) (hlc : l ≤ c) (hcm : c ≤ 9223372036854775807) (hx : BytesAt w ao bs) (h8 : B8 bs) :
    Calls Try.prog 5 #[.slice ao l c] w fun e w' => e = .returned (.bool true) ∧ Below w.heap.size w w' := by
  by_cases hbig : 1048576 < l
  · have hd : decide ((1048576 : Int) < l) = true := decide_eq_true (by omega)
    clear hx hn h8
    go_enter Try.func5, Try.ntmps5
    go_wp2
    go_ret
    exact ⟨rfl, Below.refl _ _⟩
  have hd : decide ((1048576 : Int) < l) = false := decide_eq_false (by omega)
  go_enter Try.func5, Try.ntmps5
  go_wp2_with fail
  refine (drawFreePlace_any ao bs l c w hn hlc hcm hx h8).mono fun e w1 h => ?_
  obtain ⟨wide, ao1, m, c1, ys, rfl, hl, hmc, hm9, hwd, o, B⟩ := h
  clear hx h8 hn hd hbig
  have HL := hid hl
  clear hl
  have bk := Blk.new w1 #[.int .i64 wide, .slice ao1 m c1] 25
  have o := o.alloc (.cells #[.int .i64 wide, .slice ao1 m c1] 25)
  have hgbw : w.heap.size ≤ w1.heap.size := B.size
  have B := B.alloc B.size (.cells #[.int .i64 wide, .slice ao1 m c1] 25)
  go_wp2_with fail
  generalize (w1.alloc (.cells #[.int .i64 wide, .slice ao1 m c1] 25)) = W at *
  generalize w1.heap.size = gb at *
  by_cases hok : BoardOk wide ys
  · obtain ⟨z, hz, hzl, hall⟩ := freePlace_law hok
    rw [HL.out] at hzl hall
    have HA := hid hall
    have HF := hid hz
    clear hall hz hok
    refine (implFreePlace_any wide ao1 ys m c1 W HL.out (by omega) o.ints).mono fun e w2 h => ?_
    rw [HF.out] at h
    obtain ⟨rfl, b⟩ := h
    have o := o.below b (Nat.le_refl _)
    have bk := bk.below b (Nat.le_refl _)
    have B := B.trans (b.mono B.size)
    clear b
    have e0 := bk.at 0 rfl
    have e1 := bk.at 1 rfl
    go_wp2_with fail
    refine (specFreePlace_any wide ao1 ys m c1 w2 HL.out (by omega) hmc o.ints).mono fun e w3 h => ?_
    rw [HF.out] at h
    obtain ⟨rfl, b⟩ := h
    have o := o.below b (Nat.le_refl _)
    have bk := bk.below b (Nat.le_refl _)
    have B := B.trans (b.mono B.size)
    clear b e0 e1
    have e0 := bk.at 0 rfl
    have e1 := bk.at 1 rfl
    have hb1 : ((z : Int) != z) = false := by simp
    have hd0 : decide ((z : Int) < 0) = false := decide_eq_false (by omega)
    have hd1 : decide ((z : Int) < m) = true := decide_eq_true (by omega)
    obtain ⟨g, rfl⟩ := o.addr (by rw [HL.out]; omega)
    clear bk
    go_wp2
    go_loop [5] (fun i => ∃ k : Nat, k ≤ m ∧ i = .int .i64 k) (fun i => m - (intOf i).toNat)
    case atStart => exact ⟨0, Nat.zero_le _, rfl⟩
    case round =>
      obtain ⟨k, hk, rfl⟩ := hrel
      by_cases hlt : k < m
      · have hck := o.cell (j := k) (by rw [HL.out]; omega)
        have hb := HA.out k hlt
        clear o
        generalize nth ys k = y at *
        go_wp2
        go_round
        case rel => exact ⟨k + 1, by omega, by go_num⟩
        case measure => simp [intOf]; omega
      · obtain rfl : k = m := by omega
        clear o
        go_wp2
        go_ret
        exact ⟨rfl, B⟩
  · have HF := hid (freeI_out hok)
    have HB := hid (boardB_not.2 hok)
    clear hok
    refine (implFreePlace_any wide ao1 ys m c1 W HL.out (by omega) o.ints).mono fun e w2 h => ?_
    rw [HF.out] at h
    obtain ⟨rfl, b⟩ := h
    have o := o.below b (Nat.le_refl _)
    have bk := bk.below b (Nat.le_refl _)
    have B := B.trans (b.mono B.size)
    clear b
    have e0 := bk.at 0 rfl
    have e1 := bk.at 1 rfl
    go_wp2_with fail
    refine (specFreePlace_any wide ao1 ys m c1 w2 HL.out (by omega) hmc o.ints).mono fun e w3 h => ?_
    rw [HF.out] at h
    obtain ⟨rfl, b⟩ := h
    have o := o.below b (Nat.le_refl _)
    have bk := bk.below b (Nat.le_refl _)
    have B := B.trans (b.mono B.size)
    clear b e0 e1
    have e0 := bk.at 0 rfl
    have e1 := bk.at 1 rfl
    clear bk
    go_wp2_with fail
    refine (implBoardValid_any wide ao1 ys m c1 w3 HL.out (by omega) o.ints).mono fun e w4 h => ?_
    rw [HB.out] at h
    obtain ⟨rfl, b⟩ := h
    have B := B.trans (b.mono B.size)
    clear b o e0 e1
    go_wp2_with fail
    refine (alive_any w4).mono fun e w5 h => ?_
    obtain ⟨rfl, b⟩ := h
    have B := B.trans (b.mono B.size)
    clear b
    go_wp2
    go_ret
    exact ⟨rfl, B⟩

end Go.Proofs.Ytajfanncdfdalaa

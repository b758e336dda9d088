/- The walk of the law FnFreeFar. -/
import Derived.Test.YtajfanncdfdalaaTr
import Derived.Test.YtajfanncdfdalaaAl
import Derived.Test.YtajfanncdfdalaaDd
namespace Go.Proofs.Ytajfanncdfdalaa
open Go Go.RowKit

theorem freeFar_law {wide : Int} {xs : List Int} (h : BoardOk wide xs) : 0 ≤ freeFarI wide xs ∧ freeFarI wide xs ≤ wide + (xs.length : Int) / wide - 2 ∧ (freeFarI wide xs = 0 ↔ nth xs (xs.length - 1) = 0) := by
  have hz := zeroI_ok h
  obtain ⟨z, hz'⟩ : ∃ z : Nat, zeroI xs = z := Int.eq_ofNat_of_zero_le hz.1
  obtain ⟨hzl, hz0⟩ := zeroI_nth h hz'
  have h1 := h.1
  have hw := h.2.2.1
  have hn := h.2.2.2.1
  rw [freeFarI_in h, hz', far_last hw hn (by omega) (by omega)]
  have e1 := last_mod hw hn
  have e2 := Int.mul_ediv_add_emod ((xs.length : Int) - 1) wide
  have e3 := Int.mul_ediv_add_emod (xs.length : Int) wide
  have e4 := Int.mul_ediv_add_emod (z : Int) wide
  have e5 := Int.emod_nonneg (z : Int) (b := wide) (by omega)
  have e6 := Int.emod_lt_of_pos (z : Int) (b := wide) (by omega)
  have e7 : (z : Int) / wide ≤ ((xs.length : Int) - 1) / wide := Int.ediv_le_ediv (by omega) (by omega)
  have e8 : 0 ≤ (z : Int) / wide := Int.ediv_nonneg (by omega) (by omega)
  rw [hn] at e3
  rw [e1] at e2 ⊢
  have hq : ((xs.length : Int) - 1) / wide = (xs.length : Int) / wide - 1 := by
    have hx : wide * (((xs.length : Int) - 1) / wide + 1) = wide * ((xs.length : Int) / wide) := by rw [Int.mul_add]; omega
    have := Int.eq_of_mul_eq_mul_left (by omega : wide ≠ 0) hx
    omega
  rw [hq] at e7 ⊢
  refine ⟨by omega, by omega, fun hf => ?_, fun hf => ?_⟩
  · have h2 : (z : Int) / wide = (xs.length : Int) / wide - 1 := by omega
    have h3 : (z : Int) % wide = wide - 1 := by omega
    rw [h2, h3, ← hq] at e4
    have : z = xs.length - 1 := by omega
    rw [← this]; exact hz0
  · have := nth_inj h.2.2.2.2 hzl (by omega) (hz0.trans hf.symm)
    have hzz : (z : Int) = (xs.length : Int) - 1 := by omega
    rw [hzz, hq, e1]; omega

set_option maxRecDepth 100000 in
set_option maxHeartbeats 2000000 in
theorem fnFreeFar_walk (w : World) (ao : Option Addr) (bs : List Int) (l c : Nat) (hn : bs.length = l) (hlc : l ≤ c) (hcm : c ≤ 9223372036854775807) (hx : BytesAt w ao bs) (h8 : B8 bs) :
    Calls Try.prog 7 #[.slice ao l c] w fun e w' => e = .returned (.bool true) ∧ Below w.heap.size w w' := by
  by_cases hbig : 1048576 < l
  · have hd : decide ((1048576 : Int) < l) = true := decide_eq_true (by omega)
    clear hx hn h8
    go_enter Try.func7, Try.ntmps7
    go_wp2
    go_ret
    exact ⟨rfl, Below.refl _ _⟩
  have hd : decide ((1048576 : Int) < l) = false := decide_eq_false (by omega)
  go_enter Try.func7, Try.ntmps7
  go_wp2_with fail
  refine (drawFreeFar_any ao bs l c w hn hlc hcm hx h8).mono fun e w1 h => ?_
  obtain ⟨wide, ao1, m, c1, ys, rfl, hl, hmc, hm9, hwd, o, B⟩ := h
  clear hx h8 hn hd hbig
  have HL := hid hl
  clear hl
  have bk := Blk.new w1 #[.int .i64 wide, .slice ao1 m c1] 25
  have o := o.alloc (.cells #[.int .i64 wide, .slice ao1 m c1] 25)
  have hgbw : w.heap.size ≤ w1.heap.size := B.size
  have B := B.alloc B.size (.cells #[.int .i64 wide, .slice ao1 m c1] 25)
  go_wp2_with fail
  generalize (w1.alloc (.cells #[.int .i64 wide, .slice ao1 m c1] 25)) = W at *
  generalize w1.heap.size = gb at *
  by_cases hok : BoardOk wide ys
  · have hlw := freeFar_law hok
    have hw := hok.2.2.1
    have hmn : 2 ≤ m := by have := hok.1; rw [HL.out] at this; exact this
    rw [HL.out] at hlw
    obtain ⟨f0, f1, f2⟩ := hlw
    have ht0 : 1 ≤ (m : Int) / wide ∧ (m : Int) / wide ≤ 9 := by
      have e3 := Int.mul_ediv_add_emod (m : Int) wide
      have hnn := hok.2.2.2.1
      rw [HL.out] at hnn
      rw [hnn] at e3
      refine ⟨?_, ?_⟩
      · refine Classical.byContradiction fun hc => ?_
        have h0 : 0 ≤ (m : Int) / wide := Int.ediv_nonneg (by omega) (by omega)
        have : (m : Int) / wide = 0 := by omega
        rw [this] at e3; omega
      · refine Int.le_trans (Int.ediv_le_self (b := wide) (by omega)) (by omega)
    have htd : ((m : Int)).tdiv wide = (m : Int) / wide := Int.tdiv_eq_ediv_of_nonneg (by omega)
    generalize (m : Int) / wide = T at *
    have hff : Hid (freeFarI wide ys = 0 ↔ nth ys (m - 1) = 0) := f2
    clear f2 hok
    obtain ⟨f, hf⟩ : ∃ f, freeFarI wide ys = f := ⟨_, rfl⟩
    rw [hf] at hff f0 f1
    have HF := hid hf
    clear hf
    refine (implFreeFar_any wide ao1 ys m c1 W HL.out (by omega) o.ints).mono fun e w2 h => ?_
    rw [HF.out] at h
    obtain ⟨rfl, b⟩ := h
    have o := o.below b (Nat.le_refl _)
    have bk := bk.below b (Nat.le_refl _)
    have B := B.trans (b.mono B.size)
    clear b
    have e0 := bk.at 0 rfl
    have e1 := bk.at 1 rfl
    go_wp2_with fail
    refine (specFreeFar_any wide ao1 ys m c1 w2 HL.out (by omega) hmc o.ints).mono fun e w3 h => ?_
    rw [HF.out] at h
    obtain ⟨rfl, b⟩ := h
    have o := o.below b (Nat.le_refl _)
    have bk := bk.below b (Nat.le_refl _)
    have B := B.trans (b.mono B.size)
    clear b e0 e1
    have e0 := bk.at 0 rfl
    have e1 := bk.at 1 rfl
    have hb1 : (f != f) = false := by simp
    have hd0 : decide (f < 0) = false := decide_eq_false (by omega)
    have hw0 : (wide == 0) = false := by simp; omega
    have hd2 : decide (f ≤ wide + T - 2) = true := decide_eq_true f1
    obtain ⟨g, rfl⟩ := o.addr (by rw [HL.out]; omega)
    have cl := o.cell (j := m - 1) (by rw [HL.out]; omega)
    have hm1 : ((m : Int) - 1).toNat = m - 1 := by omega
    have hend : ((f == 0) == (nth ys (m - 1) == 0)) = true := by
      rw [Bool.beq_eq_decide_eq, decide_eq_true_iff, Bool.eq_iff_iff, beq_iff_eq, beq_iff_eq]
      exact hff.out
    clear o bk hff
    generalize nth ys (m - 1) = y at *
    go_wp2
    go_quiet (fail)
    go_wp2
    go_ret
    exact ⟨rfl, below_drewN B _⟩
  · have HF := hid (freeFarI_out hok)
    refine (implFreeFar_any wide ao1 ys m c1 W HL.out (by omega) o.ints).mono fun e w2 h => ?_
    rw [HF.out] at h
    obtain ⟨rfl, b⟩ := h
    have o := o.below b (Nat.le_refl _)
    have bk := bk.below b (Nat.le_refl _)
    have B := B.trans (b.mono B.size)
    clear b
    have e0 := bk.at 0 rfl
    have e1 := bk.at 1 rfl
    go_wp2_with fail
    refine (specFreeFar_any wide ao1 ys m c1 w2 HL.out (by omega) hmc o.ints).mono fun e w3 h => ?_
    rw [HF.out] at h
    obtain ⟨rfl, b⟩ := h
    have B := B.trans (b.mono B.size)
    clear b e0 e1 o bk
    go_wp2_with fail
    refine (alive_any w3).mono fun e w4 h => ?_
    obtain ⟨rfl, b⟩ := h
    have B := B.trans (b.mono B.size)
    clear b
    go_wp2
    go_ret
    exact ⟨rfl, B⟩

end Go.Proofs.Ytajfanncdfdalaa

/- The walk of the law FnOutMay. -/
import Derived.Test.YtgmjffplinpobaaLs
import Derived.Test.YtgmjffplinpobaaLn
import Derived.Test.YtgmjffplinpobaaAl
namespace Go.Proofs.Ytgmjffplinpobaa
open Go Go.RowKit

set_option maxRecDepth 100000 in
set_option maxHeartbeats 1000000 in
theorem fnOutMay_walk (w : World) (ao : Option Addr) (bs : List Int) (l c : Nat) (hn : bs.length = l) (hlc : l ≤ c) (hcm : c ≤ 9223372036854775807) (hx : BytesAt w ao bs) (h8 : B8 bs) :
    Calls Try.prog 3 #[.slice ao l c] w fun e w' => e = .returned (.bool true) ∧ Below w.heap.size w w' := by
  by_cases hbig : 1048576 < l
  · have hd : decide ((1048576 : Int) < l) = true := decide_eq_true (by omega)
    clear hx hn h8
    go_enter Try.func3, Try.ntmps3
    go_wp2
    go_ret
    exact ⟨rfl, Below.refl _ _⟩
  have hd : decide ((1048576 : Int) < l) = false := decide_eq_false (by omega)
  go_enter Try.func3, Try.ntmps3
  go_wp2_with fail
  refine (drawOutMay_any ao bs l c w hn hlc hcm hx h8).mono fun e w1 h => ?_
  obtain ⟨ao1, m, c1, ys, s, rfl, hl, hmc, hm, o, B⟩ := h
  clear hx h8 hn hd hbig
  have HL := hid hl
  clear hl
  have bk := Blk.new w1 #[.slice ao1 m c1] 25
  have o := o.alloc (.cells #[.slice ao1 m c1] 25)
  have B := B.alloc B.size (.cells #[.slice ao1 m c1] 25)
  go_wp2_with fail
  generalize (w1.alloc (.cells #[.slice ao1 m c1] 25)) = W at *
  generalize w1.heap.size = gb at *
  refine (implOutMay_any ao1 ys m c1 s W HL.out (by omega) o.ints).mono fun e w2 h => ?_
  have hmo := may_out ys s
  obtain ⟨T, hT⟩ : ∃ T, mayO ys s = T := ⟨_, rfl⟩
  rw [hT] at h hmo
  have HT := hid hT
  have HD := hid hmo.symm
  clear hT hmo
  obtain ⟨rfl, b⟩ := h
  have o := o.below b (Nat.le_refl _)
  have bk := bk.below b (Nat.le_refl _)
  have B := B.trans (b.mono B.size)
  clear b
  have e0 := bk.at 0 rfl
  go_wp2_with fail
  clear e0
  refine (specOutMay_any ao1 ys m c1 s w2 HL.out (by omega) o.ints).mono fun e w3 h => ?_
  rw [HT.out] at h
  obtain ⟨rfl, b⟩ := h
  have o := o.below b (Nat.le_refl _)
  have bk := bk.below b (Nat.le_refl _)
  have B := B.trans (b.mono B.size)
  clear b
  have htt : (T != T) = false := by simp
  have htt2 : (T == T) = true := by simp
  have e0 := bk.at 0 rfl
  go_wp2_with fail
  clear e0
  refine (implOutBy_any ao1 ys m c1 s w3 HL.out (by omega) o.ints).mono fun e w4 h => ?_
  rw [HD.out] at h
  obtain ⟨rfl, b⟩ := h
  have B := B.trans (b.mono B.size)
  clear b o bk
  generalize outI ys s = v
  go_wp2_with fail
  refine (alive_any w4).mono fun e w5 h => ?_
  obtain ⟨rfl, b⟩ := h
  have B := B.trans (b.mono B.size)
  clear b
  go_wp2
  go_ret
  exact ⟨rfl, B⟩

end Go.Proofs.Ytgmjffplinpobaa

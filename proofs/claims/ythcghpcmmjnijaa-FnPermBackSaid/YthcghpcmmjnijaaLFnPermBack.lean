/- The walk of the law FnPermBack. -/
import Derived.Test.YthcghpcmmjnijaaPv
import Derived.Test.YthcghpcmmjnijaaPn
import Derived.Test.YthcghpcmmjnijaaPb
import Derived.Test.YthcghpcmmjnijaaPq
import Derived.Test.YthcghpcmmjnijaaSi
import Derived.Test.YthcghpcmmjnijaaAl
import Derived.Test.YthcghpcmmjnijaaDp
namespace Go.Proofs.Ythcghpcmmjnijaa
open Go Go.RowKit

theorem back_none {xs : List Int} {m : Nat} (h : PermOk xs) (hm : xs.length = m) : thenL xs (backL xs) = noneL m ∧ thenL (backL xs) xs = noneL m ∧ (backL xs).length = m := by
  have hl := length_turnL xs
  have hd := h.2.2
  have h1 := h.1
  have h2 := h.2.1
  rw [backL_in h, noneL_in ⟨by omega, by omega⟩, thenL_in ⟨h, permOk_turn h, hl.symm⟩, thenL_in ⟨permOk_turn h, h, hl⟩, join_turn hd rfl, turn_join' hd rfl, hm]
  exact ⟨rfl, rfl, by rw [hl]; exact hm⟩

set_option maxRecDepth 100000 in
set_option maxHeartbeats 2000000 in
theorem fnPermBack_walk (w : World) (ao : Option Addr) (bs : List Int) (l c : Nat) (hn : bs.length = l) (hlc : l ≤ c) (hcm : c ≤ 9223372036854775807) (hx : BytesAt w ao bs) (h8 : B8 bs) :
    Calls Try.prog 7 #[.slice ao l c] w fun e w' => e = .returned (.bool true) ∧ Below w.heap.size w w' := by
  by_cases hbig : 1048576 < l
  · have hd : decide ((1048576 : Int) < l) = true := decide_eq_true (by omega)
    clear hx hn h8
    go_enter Try.func7, Try.ntmps7
    go_wp2
    go_ret
    exact ⟨rfl, Below.refl _ _⟩
  have hd : decide ((1048576 : Int) < l) = false := decide_eq_false (by omega)
  go_enter Try.func7, Try.ntmps7
  go_wp2_with fail
  refine (drawPermBack_any ao bs l c w hn hlc hcm hx h8).mono fun e w1 h => ?_
  obtain ⟨ao1, m, c1, ys, rfl, hl, hmc, hm, o, B⟩ := h
  clear hx h8 hn hd hbig
  have hbk : Hid (permB ys = true → thenL ys (backL ys) = noneL m ∧ thenL (backL ys) ys = noneL m ∧ (backL ys).length = m) := fun h => back_none (permB_iff.1 h) hl
  have hbn : Hid (permB ys = false → (backL ys).length = 0) := fun h => by rw [backL_out (permB_not.1 h)]; rfl
  have hbl := length_backL ys
  have HL := hid hl
  clear hl
  obtain ⟨N, hN⟩ : ∃ N, (backL ys).length = N := ⟨_, rfl⟩
  rw [hN] at hbk hbn hbl
  have HN := hid hN
  clear hN
  go_wp2_with fail
  refine (implPermBack_any ao1 ys m c1 w1 HL.out (by omega) o.ints).mono fun e w2 h => ?_
  obtain ⟨ao2, c2, rfl, o2, b2⟩ := h.to HN.out
  clear h
  have o := o.below b2 (Nat.le_refl _)
  have B := B.trans (b2.mono B.size)
  clear b2
  go_wp2_with fail
  refine (specPermBack_any ao1 ys m c1 w2 HL.out (by omega) hmc o.ints).mono fun e w3 h => ?_
  obtain ⟨ao3, c3, rfl, o3, b3⟩ := h.to HN.out
  clear h
  have o := o.below b3 (Nat.le_refl _)
  have o2 := o2.below b3 (Nat.le_refl _)
  have B := B.trans (b3.mono B.size)
  clear b3
  go_wp2_with fail
  refine (sameInts_self ao2 ao3 _ N c2 c3 w3 HN.out (by omega) o2.ints o3.ints).mono fun e w4 h => ?_
  obtain ⟨rfl, hq⟩ := h
  have o := o.qt hq
  have o2 := o2.qt hq
  have B := B.trans (hq.below _)
  clear hq o3
  go_wp2_with fail
  refine (specPermValid_any ao1 ys m c1 w4 HL.out (by omega) hmc o.ints).mono fun e w5 h => ?_
  cases hpv : permB ys with
  | false =>
    rw [hpv] at h
    obtain ⟨rfl, hq⟩ := h
    have B := B.trans (hq.below _)
    obtain rfl : N = 0 := hbn.out hpv
    clear o o2 hq
    go_wp2_with fail
    refine (alive_any w5).mono fun e w6 h => ?_
    obtain ⟨rfl, hb⟩ := h
    have B := B.trans (hb.mono B.size)
    clear hb
    go_wp2
    go_ret
    exact ⟨rfl, B⟩
  | true =>
    rw [hpv] at h
    obtain ⟨rfl, hq⟩ := h
    have B := B.trans (hq.below _)
    have o := o.qt hq
    have o2 := o2.qt hq
    clear hq
    obtain ⟨e1, e2, rfl⟩ := hbk.out hpv
    have E1 := hid e1
    have E2 := hid e2
    have hnl : Hid ((noneL (N : Int)).length = N) := by
      have h := permB_iff.1 hpv
      have h1 := h.1
      have h2 := h.2.1
      rw [HL.out] at h1 h2
      unfold Hid
      rw [noneL_in ⟨by omega, by omega⟩, length_iota]
      omega
    clear e1 e2 hbk hbn hpv
    generalize backL ys = X at *
    go_wp2_with fail
    refine (implPermNone_any N w5).mono fun e w6 h => ?_
    obtain ⟨ao6, c6, rfl, o6, b6⟩ := h.to hnl.out
    clear h
    have o := o.below b6 (Nat.le_refl _)
    have o2 := o2.below b6 (Nat.le_refl _)
    have B := B.trans (b6.mono B.size)
    clear b6
    go_wp2_with fail
    refine (implPermThen_any ao1 ao2 ys X N N c1 c2 w6 HL.out HN.out (by omega) (by omega) o.ints o2.ints).mono fun e w7 h => ?_
    rw [E1.out] at h
    obtain ⟨ao7, c7, rfl, o7, b7⟩ := h.to hnl.out
    clear h
    have o := o.below b7 (Nat.le_refl _)
    have o2 := o2.below b7 (Nat.le_refl _)
    have o6 := o6.below b7 (Nat.le_refl _)
    have B := B.trans (b7.mono B.size)
    clear b7
    go_wp2_with fail
    refine (sameInts_self ao7 ao6 _ N c7 c6 w7 hnl.out (by omega) o7.ints o6.ints).mono fun e w8 h => ?_
    obtain ⟨rfl, hq⟩ := h
    have o := o.qt hq
    have o2 := o2.qt hq
    have o6 := o6.qt hq
    have B := B.trans (hq.below _)
    clear hq o7
    go_wp2_with fail
    refine (implPermThen_any ao2 ao1 X ys N N c2 c1 w8 HN.out HL.out (by omega) (by omega) o2.ints o.ints).mono fun e w9 h => ?_
    rw [E2.out] at h
    obtain ⟨ao9, c9, rfl, o9, b9⟩ := h.to hnl.out
    clear h
    have o6 := o6.below b9 (Nat.le_refl _)
    have B := B.trans (b9.mono B.size)
    clear b9 o o2
    go_wp2_with fail
    refine (sameInts_self ao9 ao6 _ N c9 c6 w9 hnl.out (by omega) o9.ints o6.ints).mono fun e w10 h => ?_
    obtain ⟨rfl, hq⟩ := h
    have B := B.trans (hq.below _)
    clear hq o6 o9
    go_wp2
    go_ret
    exact ⟨rfl, B⟩

end Go.Proofs.Ythcghpcmmjnijaa

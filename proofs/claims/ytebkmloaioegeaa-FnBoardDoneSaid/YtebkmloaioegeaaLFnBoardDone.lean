/- The walk of the law FnBoardDone. -/
import Derived.Test.YtebkmloaioegeaaSl
import Derived.Test.YtebkmloaioegeaaAl
import Derived.Test.YtebkmloaioegeaaDi
import Derived.Test.YtebkmloaioegeaaSb
namespace Go.Proofs.Ytebkmloaioegeaa
open Go Go.RowKit

theorem freeFar_ord {wide : Int} {n : Nat} (h : BoardOk wide (ordL n)) (hl : (ordL n).length = n) (h1 : 1 ≤ n) : freeFarI wide (ordL n) = 0 := by
  have hz : zeroI (ordL n) = ((n - 1 : Nat) : Int) := zeroI_at (by rw [hl]; omega) (by rw [ordL_nth (by omega), if_neg (by omega)]) fun j hj => by
    rw [ordL_nth (by omega), if_pos (by omega)]; omega
  rw [freeFarI_in h, hl, hz, show ((n - 1 : Nat) : Int) = (n : Int) - 1 by omega, farI_self]

theorem least_ord {wide tall : Int} {n : Nat} (hs : SidesOk 6 wide tall) (hn : wide * tall = n) : leastI wide (ordL n) = 0 := by
  have ho := sides_ord (by omega) hs hn
  have hr := all_srch hs hn
  rw [leastI_in ho.1 (by rw [ho.2.1]; have := ho.2.2.2; omega), ho.2.1]
  have := farS_at hr hr.pos
  rw [hr.zero.1, hr.zero.2] at this
  exact this

set_option maxRecDepth 100000 in
set_option maxHeartbeats 4000000 in
theorem fnBoardDone_walk (w : World) (ao : Option Addr) (bs : List Int) (l c : Nat) (hn : bs.length = l) (hlc : l ≤ c) (hcm : c ≤ 9223372036854775807) (hx : BytesAt w ao bs) (h8 : B8 bs) :
    Calls Try.prog 7 #[.slice ao l c] w fun e w' => e = .returned (.bool true) ∧ Below w.heap.size w w' := by
  by_cases hbig : 1048576 < l
  · have hd : decide ((1048576 : Int) < l) = true := decide_eq_true (by omega)
    clear hx hn h8
    go_enter Try.func7, Try.ntmps7
    go_wp2
    go_ret
    exact ⟨rfl, Below.refl _ _⟩
  have hd : decide ((1048576 : Int) < l) = false := decide_eq_false (by omega)
  go_enter Try.func7, Try.ntmps7
  go_wp2_with fail
  refine (drawBoardDone_any ao bs l c w hn hlc hcm hx h8).mono fun e w1 h => ?_
  obtain ⟨a, b, rfl, ha, hb, B⟩ := h
  clear hx h8 hn hd hbig
  have hlen := length_doneL a b
  obtain ⟨N, hN⟩ : ∃ N, (doneL a b).length = N := ⟨_, rfl⟩
  have HL := hid hN
  rw [hN] at hlen
  clear hN
  go_wp2_with fail
  refine (implBoardDone_any a b w1).mono fun e w2 h => ?_
  obtain ⟨ao1, c1, rfl, hc1, o, bb⟩ := h.to HL.out
  clear h
  have hs1 := B.size
  have B := B.trans (bb.mono B.size)
  have o := o.lower hs1
  clear bb
  have bk := Blk.new w2 #[.int .i64 (doneW a b), .slice ao1 N c1] 29
  have o := o.alloc (.cells #[.int .i64 (doneW a b), .slice ao1 N c1] 29)
  have B := B.alloc B.size (.cells #[.int .i64 (doneW a b), .slice ao1 N c1] 29)
  go_wp2_with fail
  generalize (w2.alloc (.cells #[.int .i64 (doneW a b), .slice ao1 N c1] 29)) = W at *
  generalize w2.heap.size = gb at *
  have e0 := bk.at 0 rfl
  have e1 := bk.at 1 rfl
  have lt := bk.lt
  have oi := o.ints
  go_region_held3 (fun w' => (∀ b o, b < W.heap.size → w'.cell? ⟨b, o, none⟩ = W.cell? ⟨b, o, none⟩) ∧ Below W.heap.size W w')
    (first | with_reducible exact sb_drew _ | with_reducible exact sb_call ‹_› bt | with_reducible exact sb_call ‹_› bs2)
    (first | (go_at_call 27; refine (specBoardDone_any a b _).mono fun e wt h => ?_; obtain ⟨ao_t, c_t, rfl, hc_t, t, bt⟩ := h.to HL.out; clear h)
           | (go_at_call 26; refine (sameBoard_self (doneW a b) ao1 ao_t (doneL a b) N c1 c_t _ HL.out (by omega) (oi.below (sb_below ‹_›) (Nat.le_refl _)) t.ints).mono fun e wt2 h => ?_; obtain ⟨rfl, bs2⟩ := h))
  rename_i hH
  have b1 := hH.2
  clear hH t bt bs2 oi
  have o := o.below b1 (Nat.le_refl _)
  have bk := bk.below b1 (Nat.le_refl _)
  have B := B.trans (b1.mono B.size)
  clear e0 e1 b1
  have e0 : wt2.cell? ⟨gb, 0, none⟩ = some (.int .i64 (doneW a b)) := bk.at 0 rfl
  have e1 : wt2.cell? ⟨gb, 1, none⟩ = some (.slice ao1 N c1) := bk.at 1 rfl
  by_cases hs : SidesOk 9 a b
  · obtain ⟨M, hM⟩ : ∃ M : Nat, a * b = M := Int.eq_ofNat_of_zero_le (by have := hs.2.2.1; omega)
    have hW := doneW_in hs
    have hL := doneL_in hs hM
    have hor := sides_ord (by omega) hs hM
    have hNM : N = M := by have := HL.out; rw [hL, hor.2.1] at this; exact this.symm
    subst hNM
    have hol := hid hor.2.1
    rw [hL] at o
    rw [hW] at bk e0 ⊢
    have hok := hid hor.1
    have hv := hid (boardB_iff.2 hor.1)
    have hff := hid (freeFar_ord hor.1 hor.2.1 (by have := hor.2.2.1; omega))
    have htf := hid (tilesFar_ord hor.1 hor.2.1)
    have hwz : (a == 0) = false := by have := hs.1.1; simp; omega
    have hN9 : N ≤ 9 := by have := hor.2.2.2; omega
    have hs6 : Hid (N ≤ 6 → leastI a (ordL N) = 0) := fun h6 => least_ord (wide := a) (tall := b) ⟨⟨hs.1.1, by
        have h1 := hs.1.1
        have h2 := hs.2.1.1
        have : a * 1 ≤ a * b := Int.mul_le_mul_of_nonneg_left h2 (by omega)
        omega⟩, ⟨hs.2.1.1, by
        have h1 := hs.1.1
        have h2 := hs.2.1.1
        have : 1 * b ≤ a * b := Int.mul_le_mul_of_nonneg_right h1 (by omega)
        omega⟩, hs.2.2.1, by omega⟩ hM
    clear hs hM hW hL hor
    generalize ordL N = xs at *
    go_wp2_with fail
    refine (implBoardValid_any a ao1 xs N c1 wt2 hol.out (by omega) o.ints).mono fun e w5 h => ?_
    rw [hv.out] at h
    obtain ⟨rfl, bb⟩ := h
    have o := o.below bb (Nat.le_refl _)
    have bk := bk.below bb (Nat.le_refl _)
    have B := B.trans (bb.mono B.size)
    clear bb e0 e1
    have e0 := bk.at 0 rfl
    have e1 := bk.at 1 rfl
    go_wp2_with fail
    refine (implFreeFar_any a ao1 xs N c1 w5 hol.out (by omega) o.ints).mono fun e w6 h => ?_
    rw [hff.out] at h
    obtain ⟨rfl, bb⟩ := h
    have o := o.below bb (Nat.le_refl _)
    have bk := bk.below bb (Nat.le_refl _)
    have B := B.trans (bb.mono B.size)
    clear bb e0 e1
    have e0 := bk.at 0 rfl
    have e1 := bk.at 1 rfl
    go_wp2_with fail
    refine (implTilesFar_any a ao1 xs N c1 w6 hol.out (by omega) o.ints).mono fun e w7 h => ?_
    rw [htf.out] at h
    obtain ⟨rfl, bb⟩ := h
    have o := o.below bb (Nat.le_refl _)
    have bk := bk.below bb (Nat.le_refl _)
    have B := B.trans (bb.mono B.size)
    clear bb e0 e1
    have e0 := bk.at 0 rfl
    have e1 := bk.at 1 rfl
    by_cases h6 : N ≤ 6
    · have hd6 : decide ((6 : Int) < N) = false := decide_eq_false (by omega)
      have hle := hid (hs6.out h6)
      clear hs6
      go_wp2_with fail
      refine (implBoardLeast_any a ao1 xs N c1 w7 hol.out (by omega) o.ints).mono fun e w8 h => ?_
      rw [hle.out] at h
      obtain ⟨rfl, bb⟩ := h
      have B := B.trans (bb.mono B.size)
      clear bb e0 e1 o bk
      go_wp2
      go_ret
      exact ⟨rfl, B⟩
    · have hd6 : decide ((6 : Int) < N) = true := decide_eq_true (by omega)
      clear hs6 o bk
      go_wp2
      go_ret
      exact ⟨rfl, B⟩
  · have hW := doneW_out hs
    have hL := doneL_out hs
    have hN0 : N = 0 := by have := HL.out; rw [hL] at this; exact this.symm
    subst hN0
    rw [hW] at bk e0 ⊢
    clear hs hW hL o bk
    go_wp2_with fail
    refine (alive_any wt2).mono fun e w4 h => ?_
    obtain ⟨rfl, bb⟩ := h
    have B := B.trans (bb.mono B.size)
    clear bb
    go_wp2
    go_ret
    exact ⟨rfl, B⟩

end Go.Proofs.Ytebkmloaioegeaa

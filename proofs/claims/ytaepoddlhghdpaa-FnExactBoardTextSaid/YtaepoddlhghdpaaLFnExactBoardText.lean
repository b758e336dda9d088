/- The walk of the law FnExactBoardText. -/
import Derived.Test.YtaepoddlhghdpaaSu
import Derived.Test.YtaepoddlhghdpaaBd
import Derived.Deep.RegionHeld3
namespace Go.Proofs.Ytaepoddlhghdpaa
open Go Go.RowKit

set_option maxRecDepth 100000 in
set_option maxHeartbeats 4000000 in
theorem fnExactBoardText_walk (w : World) (wide0 : Int) (_hw0 : -9223372036854775808 ≤ wide0 ∧ wide0 ≤ 9223372036854775807) (ao0 : Option Addr) (xs0 : List Int) (n0 c0 : Nat) (hn0 : xs0.length = n0) (_hnc0 : n0 ≤ c0) (hcm0 : c0 ≤ 9223372036854775807) (hx0 : IntsAt w ao0 xs0) (_h60 : I64 xs0) :
    Calls Try.prog 3 #[.agg #[.int .i64 wide0, .slice ao0 n0 c0]] w fun e w' => e = .returned (.bool true) ∧ Below w.heap.size w w' := by
  have HN0 := hid hn0
  clear hn0
  have B := Below.refl w.heap.size w
  go_enter Try.func3, Try.ntmps3
  have bk_a0 := Blk.new w #[.int .i64 wide0, .slice ao0 n0 c0] 24
  have B := B.alloc B.size (.cells #[.int .i64 wide0, .slice ao0 n0 c0] 24)
  have e_a0_0 := bk_a0.at 0 rfl
  have e_a0_1 := bk_a0.at 1 rfl
  go_wp2_with fail
  generalize (w.alloc (.cells #[.int .i64 wide0, .slice ao0 n0 c0] 24)) = w1 at *
  clear e_a0_0 e_a0_1
  refine (szBoard_any wide0 ao0 n0 c0 1048576 w1 (by omega) (by omega) (by omega)).mono fun e w2 h => ?_
  obtain ⟨rfl, b⟩ := h
  have bk_a0 := bk_a0.below b (Nat.le_refl _)
  have B := B.trans (b.mono B.size)
  clear b
  have e_a0_0 := bk_a0.at 0 rfl
  have e_a0_1 := bk_a0.at 1 rfl
  by_cases hsz : szV 1048576 n0 < 0
  · have hd : decide (szV 1048576 n0 < 0) = true := decide_eq_true hsz
    go_wp2_with fail
    go_ret
    exact ⟨rfl, B⟩
  clear e_a0_0 e_a0_1
  have hd : decide (szV 1048576 n0 < 0) = false := decide_eq_false hsz
  have hcap0 : n0 ≤ 1048576 := by have := szV_le hsz; omega
  have e_a0_0 := bk_a0.at 0 rfl
  have e_a0_1 := bk_a0.at 1 rfl
  go_wp2_with fail
  clear e_a0_0 e_a0_1
  refine (toBoard_any wide0 ao0 xs0 n0 c0 w2 HN0.out (by omega) (hx0.below B (Nat.le_refl _))).mono fun e w3 h => ?_
  obtain ⟨ao_t0, c_t0, rfl, hc_t0, t0, b⟩ := h.to HN0.out
  clear h
  have hs_t0 := B.size
  have bk_a0 := bk_a0.below b (Nat.le_refl _)
  have B := B.trans (b.mono B.size)
  clear b
  have e_a0_0 := bk_a0.at 0 rfl
  have e_a0_1 := bk_a0.at 1 rfl
  go_wp2_with fail
  clear e_a0_0 e_a0_1
  refine (specBoardText_any wide0 ao_t0 xs0 n0 c_t0 w3 HN0.out (by omega) hc_t0 t0.ints).mono fun e w4 h => ?_
  obtain ⟨rfl, b⟩ := h
  have t0 := t0.below b (Nat.le_refl _)
  have bk_a0 := bk_a0.below b (Nat.le_refl _)
  have B := B.trans (b.mono B.size)
  clear b
  clear t0
  have e_a0_0 := bk_a0.at 0 rfl
  have e_a0_1 := bk_a0.at 1 rfl
  go_wp2_with fail
  clear e_a0_0 e_a0_1
  refine (toBoard_any wide0 ao0 xs0 n0 c0 w4 HN0.out (by omega) (hx0.below B (Nat.le_refl _))).mono fun e w5 h => ?_
  obtain ⟨ao_x0, c_x0, rfl, hc_x0, x0, b⟩ := h.to HN0.out
  clear h
  have hs_x0 := B.size
  have bk_a0 := bk_a0.below b (Nat.le_refl _)
  have B := B.trans (b.mono B.size)
  clear b
  have bk_x0 := Blk.new w5 #[.int .i64 wide0, .slice ao_x0 n0 c_x0] 27
  have x0 := x0.alloc (.cells #[.int .i64 wide0, .slice ao_x0 n0 c_x0] 27)
  have bk_a0 := bk_a0.alloc (.cells #[.int .i64 wide0, .slice ao_x0 n0 c_x0] 27)
  have B := B.alloc B.size (.cells #[.int .i64 wide0, .slice ao_x0 n0 c_x0] 27)
  have e_a0_0 := bk_a0.at 0 rfl
  have e_a0_1 := bk_a0.at 1 rfl
  have e_x0_0 := bk_x0.at 0 rfl
  have e_x0_1 := bk_x0.at 1 rfl
  go_wp2_with fail
  generalize (w5.alloc (.cells #[.int .i64 wide0, .slice ao_x0 n0 c_x0] 27)) = w6 at *
  clear e_a0_0 e_a0_1 e_x0_0 e_x0_1
  refine (implBoardText_any wide0 ao_x0 xs0 n0 c_x0 w6 HN0.out (by omega) x0.ints).mono fun e w7 h => ?_
  obtain ⟨rfl, b⟩ := h
  have x0 := x0.below b (Nat.le_refl _)
  have bk_a0 := bk_a0.below b (Nat.le_refl _)
  have bk_x0 := bk_x0.below b (Nat.le_refl _)
  have B := B.trans (b.mono B.size)
  clear b
  have e_a0_0 := bk_a0.at 0 rfl
  have e_a0_1 := bk_a0.at 1 rfl
  have e_x0_0 := bk_x0.at 0 rfl
  have e_x0_1 := bk_x0.at 1 rfl
  have lt_x := bk_x0.lt
  have lt_a := bk_a0.lt
  have hxi := hx0.below B (Nat.le_refl _)
  have hxo := x0.ints
  go_wp2
  go_region_held3 (fun w' => (∀ b o, b < w7.heap.size → w'.cell? ⟨b, o, none⟩ = w7.cell? ⟨b, o, none⟩) ∧ Below w7.heap.size w7 w')
    (first | exact sb_drew _ | exact sb_call ‹_› ‹_›)
    (first | (go_at_call 9; refine (toBoard_any wide0 ao0 xs0 n0 c0 _ HN0.out (by omega) (hxi.below (sb_below ‹_›) (Nat.le_refl _))).mono fun e wt h => ?_; obtain ⟨ao_t, c_t, rfl, hc_t, t, bt⟩ := h.to HN0.out; clear h) | (go_at_call 11; refine (eqBoard_any wide0 wide0 _ _ xs0 xs0 n0 n0 _ _ _ HN0.out HN0.out (by omega) (hxo.below (sb_below ‹_›) (Nat.le_refl _)) t.ints).mono fun e wu h => ?_; rw [eqBd_self] at h; obtain ⟨rfl, bu⟩ := h))
  rename_i hH
  have b := hH.2
  clear hH bt bu t hxi hxo lt_x lt_a e_a0_0 e_a0_1 e_x0_0 e_x0_1
  obtain ⟨w8, hwu⟩ : ∃ W, W = wu := ⟨_, rfl⟩
  subst hwu
  have x0 := x0.below b (Nat.le_refl _)
  have bk_a0 := bk_a0.below b (Nat.le_refl _)
  have bk_x0 := bk_x0.below b (Nat.le_refl _)
  have B := B.trans (b.mono B.size)
  clear b
  go_wp2_with fail
  go_ret
  exact ⟨rfl, B⟩

end Go.Proofs.Ytaepoddlhghdpaa

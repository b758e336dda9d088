/- The walk of the law FnExactTilesRun. -/
import Derived.Test.YtcllknedidpnaaaTh
import Derived.Deep.RegionHeld3
namespace Go.Proofs.Ytcllknedidpnaaa
open Go Go.RowKit

set_option maxRecDepth 100000 in
set_option maxHeartbeats 4000000 in
theorem fnExactTilesRun_walk (w : World) (wide0 : Int) (_hw0 : -9223372036854775808 ≤ wide0 ∧ wide0 ≤ 9223372036854775807) (ao0 : Option Addr) (xs0 : List Int) (n0 c0 : Nat) (hn0 : xs0.length = n0) (_hnc0 : n0 ≤ c0) (hcm0 : c0 ≤ 9223372036854775807) (hx0 : IntsAt w ao0 xs0) (_h60 : I64 xs0) (ao1 : Option Addr) (xs1 : List Int) (n1 c1 : Nat) (hn1 : xs1.length = n1) (_hnc1 : n1 ≤ c1) (_hcm1 : c1 ≤ 9223372036854775807) (hx1 : IntsAt w ao1 xs1) (_h61 : I64 xs1) :
    Calls Try.prog 4 #[.agg #[.int .i64 wide0, .slice ao0 n0 c0], .slice ao1 n1 c1] w fun e w' => e = .returned (.bool true) ∧ Below w.heap.size w w' := by
  have HN0 := hid hn0
  clear hn0
  have HN1 := hid hn1
  clear hn1
  have B := Below.refl w.heap.size w
  by_cases hbig1 : 1048576 < n1
  · have hd1 : decide ((1048576 : Int) < n1) = true := decide_eq_true (by omega)
    go_enter Try.func4, Try.ntmps4
    go_wp2_with fail
    go_ret
    exact ⟨rfl, B.alloc B.size _⟩
  have hd1 : decide ((1048576 : Int) < n1) = false := decide_eq_false (by omega)
  go_enter Try.func4, Try.ntmps4
  have bk_a0 := Blk.new w #[.int .i64 wide0, .slice ao0 n0 c0] 24
  have B := B.alloc B.size (.cells #[.int .i64 wide0, .slice ao0 n0 c0] 24)
  have e_a0_0 := bk_a0.at 0 rfl
  have e_a0_1 := bk_a0.at 1 rfl
  go_wp2_with fail
  generalize (w.alloc (.cells #[.int .i64 wide0, .slice ao0 n0 c0] 24)) = w1 at *
  clear e_a0_0 e_a0_1
  refine (szBoard_any wide0 ao0 n0 c0 1048576 w1 (by omega) (by omega) (by omega)).mono fun e w2 h => ?_
  obtain ⟨rfl, b⟩ := h
  have bk_a0 := bk_a0.below b (Nat.le_refl _)
  have B := B.trans (b.mono B.size)
  clear b
  have e_a0_0 := bk_a0.at 0 rfl
  have e_a0_1 := bk_a0.at 1 rfl
  by_cases hsz : szV 1048576 n0 < 0
  · have hd : decide (szV 1048576 n0 < 0) = true := decide_eq_true hsz
    go_wp2_with fail
    go_ret
    exact ⟨rfl, B⟩
  clear e_a0_0 e_a0_1
  have hd : decide (szV 1048576 n0 < 0) = false := decide_eq_false hsz
  have hcap0 : n0 ≤ 1048576 := by have := szV_le hsz; omega
  obtain ⟨N, hN⟩ : ∃ N, (trL wide0 xs0 xs1).length = N := ⟨_, rfl⟩
  have hNl : N ≤ 17592186044416 - 1048576 := by rw [← hN]; exact length_trL _ _ _
  have HL := hid hN
  clear hN
  have hbb : (trB wide0 xs0 xs1 != trB wide0 xs0 xs1) = false := by simp
  have hk0 : decide (((1 : Int) + n0) + n1 < 0) = false := decide_eq_false (by omega)
  have hm0 : decide ((1 : Int) + N < 0) = false := decide_eq_false (by omega)
  have hm1 : ((1 : Int) + N != 1 + N) = false := by simp
  have e_a0_0 := bk_a0.at 0 rfl
  have e_a0_1 := bk_a0.at 1 rfl
  go_wp2_with fail
  clear e_a0_0 e_a0_1
  refine (toBoard_any wide0 ao0 xs0 n0 c0 w2 HN0.out (by omega) (hx0.below B (Nat.le_refl _))).mono fun e w3 h => ?_
  obtain ⟨ao_t0, c_t0, rfl, hc_t0, t0, b⟩ := h.to HN0.out
  clear h
  have hs_t0 := B.size
  have bk_a0 := bk_a0.below b (Nat.le_refl _)
  have B := B.trans (b.mono B.size)
  clear b
  have e_a0_0 := bk_a0.at 0 rfl
  have e_a0_1 := bk_a0.at 1 rfl
  go_wp2_with fail
  clear e_a0_0 e_a0_1
  refine (toIntS_any ao1 xs1 n1 c1 w3 HN1.out (by omega) (hx1.below B (Nat.le_refl _))).mono fun e w4 h => ?_
  obtain ⟨rfl, t1, b⟩ := h
  have hs_t1 := B.size
  have t0 := t0.below b (Nat.le_refl _)
  have bk_a0 := bk_a0.below b (Nat.le_refl _)
  have B := B.trans (b.mono B.size)
  clear b
  have e_a0_0 := bk_a0.at 0 rfl
  have e_a0_1 := bk_a0.at 1 rfl
  go_wp2_with fail
  clear e_a0_0 e_a0_1
  refine (specTilesRun_any wide0 ao_t0 xs0 n0 c_t0 _ xs1 n1 n1 w4 HN0.out (by omega) hc_t0 t0.ints HN1.out (by omega) t1.ints).mono fun e w5 h => ?_
  obtain ⟨ao_o0, c_o0, rfl, hc_o0, o0, b⟩ := h.to HL.out
  clear h
  have hs_o0 := B.size
  have t0 := t0.below b (Nat.le_refl _)
  have t1 := t1.below b (Nat.le_refl _)
  have bk_a0 := bk_a0.below b (Nat.le_refl _)
  have B := B.trans (b.mono B.size)
  clear b
  clear t0
  clear t1
  have bk_o0 := Blk.new w5 #[.int .i64 (trW wide0 xs0 xs1), .slice ao_o0 N c_o0] 26
  have o0 := o0.alloc (.cells #[.int .i64 (trW wide0 xs0 xs1), .slice ao_o0 N c_o0] 26)
  have bk_a0 := bk_a0.alloc (.cells #[.int .i64 (trW wide0 xs0 xs1), .slice ao_o0 N c_o0] 26)
  have B := B.alloc B.size (.cells #[.int .i64 (trW wide0 xs0 xs1), .slice ao_o0 N c_o0] 26)
  have e_a0_0 := bk_a0.at 0 rfl
  have e_a0_1 := bk_a0.at 1 rfl
  have e_o0_0 := bk_o0.at 0 rfl
  have e_o0_1 := bk_o0.at 1 rfl
  go_wp2_with fail
  generalize (w5.alloc (.cells #[.int .i64 (trW wide0 xs0 xs1), .slice ao_o0 N c_o0] 26)) = w6 at *
  clear e_a0_0 e_a0_1 e_o0_0 e_o0_1
  refine (toBoard_any wide0 ao0 xs0 n0 c0 w6 HN0.out (by omega) (hx0.below B (Nat.le_refl _))).mono fun e w7 h => ?_
  obtain ⟨ao_x0, c_x0, rfl, hc_x0, x0, b⟩ := h.to HN0.out
  clear h
  have ap_o0_x0 := o0.apart x0 (Nat.le_refl _)
  have ap_x0_o0 := o0.apart' x0 (Nat.le_refl _)
  have ne_a0_x0 := hid (x0.ne_blk bk_a0.lt)
  have ne_o0_x0 := hid (x0.ne_blk bk_o0.lt)
  have hs_x0 := B.size
  have o0 := o0.below b (Nat.le_refl _)
  have bk_a0 := bk_a0.below b (Nat.le_refl _)
  have bk_o0 := bk_o0.below b (Nat.le_refl _)
  have B := B.trans (b.mono B.size)
  clear b
  have ne_x0_x0 := hid x0.ne_new
  have bk_x0 := Blk.new w7 #[.int .i64 wide0, .slice ao_x0 n0 c_x0] 26
  have o0 := o0.alloc (.cells #[.int .i64 wide0, .slice ao_x0 n0 c_x0] 26)
  have x0 := x0.alloc (.cells #[.int .i64 wide0, .slice ao_x0 n0 c_x0] 26)
  have bk_a0 := bk_a0.alloc (.cells #[.int .i64 wide0, .slice ao_x0 n0 c_x0] 26)
  have bk_o0 := bk_o0.alloc (.cells #[.int .i64 wide0, .slice ao_x0 n0 c_x0] 26)
  have B := B.alloc B.size (.cells #[.int .i64 wide0, .slice ao_x0 n0 c_x0] 26)
  have e_a0_0 := bk_a0.at 0 rfl
  have e_a0_1 := bk_a0.at 1 rfl
  have e_o0_0 := bk_o0.at 0 rfl
  have e_o0_1 := bk_o0.at 1 rfl
  have e_x0_0 := bk_x0.at 0 rfl
  have e_x0_1 := bk_x0.at 1 rfl
  go_wp2_with fail
  generalize (w7.alloc (.cells #[.int .i64 wide0, .slice ao_x0 n0 c_x0] 26)) = w8 at *
  clear e_a0_0 e_a0_1 e_o0_0 e_o0_1 e_x0_0 e_x0_1
  refine (toIntS_any ao1 xs1 n1 c1 w8 HN1.out (by omega) (hx1.below B (Nat.le_refl _))).mono fun e w9 h => ?_
  obtain ⟨rfl, x1, b⟩ := h
  have ap_o0_x1 := o0.apart x1 (Nat.le_refl _)
  have ap_x1_o0 := o0.apart' x1 (Nat.le_refl _)
  have ap_x0_x1 := x0.apart x1 (Nat.le_refl _)
  have ap_x1_x0 := x0.apart' x1 (Nat.le_refl _)
  have ne_a0_x1 := hid (x1.ne_blk bk_a0.lt)
  have ne_o0_x1 := hid (x1.ne_blk bk_o0.lt)
  have ne_x0_x1 := hid (x1.ne_blk bk_x0.lt)
  have hs_x1 := B.size
  have o0 := o0.below b (Nat.le_refl _)
  have x0 := x0.below b (Nat.le_refl _)
  have bk_a0 := bk_a0.below b (Nat.le_refl _)
  have bk_o0 := bk_o0.below b (Nat.le_refl _)
  have bk_x0 := bk_x0.below b (Nat.le_refl _)
  have B := B.trans (b.mono B.size)
  clear b
  have e_a0_0 := bk_a0.at 0 rfl
  have e_a0_1 := bk_a0.at 1 rfl
  have e_o0_0 := bk_o0.at 0 rfl
  have e_o0_1 := bk_o0.at 1 rfl
  have e_x0_0 := bk_x0.at 0 rfl
  have e_x0_1 := bk_x0.at 1 rfl
  go_wp2_with fail
  clear e_a0_0 e_a0_1 e_o0_0 e_o0_1 e_x0_0 e_x0_1
  refine (implTilesRun_any wide0 ao_x0 xs0 n0 c_x0 _ xs1 n1 n1 w9 HN0.out (by omega) x0.ints HN1.out (by omega) x1.ints).mono fun e w10 h => ?_
  obtain ⟨ao_g0, c_g0, rfl, hc_g0, g0, b⟩ := h.to HL.out
  clear h
  have ap_o0_g0 := o0.apart g0 (Nat.le_refl _)
  have ap_g0_o0 := o0.apart' g0 (Nat.le_refl _)
  have ap_x0_g0 := x0.apart g0 (Nat.le_refl _)
  have ap_g0_x0 := x0.apart' g0 (Nat.le_refl _)
  have ap_x1_g0 := x1.apart g0 (Nat.le_refl _)
  have ap_g0_x1 := x1.apart' g0 (Nat.le_refl _)
  have ne_a0_g0 := hid (g0.ne_blk bk_a0.lt)
  have ne_o0_g0 := hid (g0.ne_blk bk_o0.lt)
  have ne_x0_g0 := hid (g0.ne_blk bk_x0.lt)
  have hs_g0 := B.size
  have o0 := o0.below b (Nat.le_refl _)
  have x0 := x0.below b (Nat.le_refl _)
  have x1 := x1.below b (Nat.le_refl _)
  have bk_a0 := bk_a0.below b (Nat.le_refl _)
  have bk_o0 := bk_o0.below b (Nat.le_refl _)
  have bk_x0 := bk_x0.below b (Nat.le_refl _)
  have B := B.trans (b.mono B.size)
  clear b
  have ne_g0_x0 := hid x0.ne_new
  have ne_g0_x1 := hid x1.ne_new
  have ne_g0_g0 := hid g0.ne_new
  have bk_g0 := Blk.new w10 #[.int .i64 (trW wide0 xs0 xs1), .slice ao_g0 N c_g0] 26
  have o0 := o0.alloc (.cells #[.int .i64 (trW wide0 xs0 xs1), .slice ao_g0 N c_g0] 26)
  have x0 := x0.alloc (.cells #[.int .i64 (trW wide0 xs0 xs1), .slice ao_g0 N c_g0] 26)
  have x1 := x1.alloc (.cells #[.int .i64 (trW wide0 xs0 xs1), .slice ao_g0 N c_g0] 26)
  have g0 := g0.alloc (.cells #[.int .i64 (trW wide0 xs0 xs1), .slice ao_g0 N c_g0] 26)
  have bk_a0 := bk_a0.alloc (.cells #[.int .i64 (trW wide0 xs0 xs1), .slice ao_g0 N c_g0] 26)
  have bk_o0 := bk_o0.alloc (.cells #[.int .i64 (trW wide0 xs0 xs1), .slice ao_g0 N c_g0] 26)
  have bk_x0 := bk_x0.alloc (.cells #[.int .i64 (trW wide0 xs0 xs1), .slice ao_g0 N c_g0] 26)
  have B := B.alloc B.size (.cells #[.int .i64 (trW wide0 xs0 xs1), .slice ao_g0 N c_g0] 26)
  have e_a0_0 := bk_a0.at 0 rfl
  have e_a0_1 := bk_a0.at 1 rfl
  have e_o0_0 := bk_o0.at 0 rfl
  have e_o0_1 := bk_o0.at 1 rfl
  have e_x0_0 := bk_x0.at 0 rfl
  have e_x0_1 := bk_x0.at 1 rfl
  have e_g0_0 := bk_g0.at 0 rfl
  have e_g0_1 := bk_g0.at 1 rfl
  go_wp2_with fail
  generalize (w10.alloc (.cells #[.int .i64 (trW wide0 xs0 xs1), .slice ao_g0 N c_g0] 26)) = w11 at *
  clear e_a0_0 e_a0_1 e_o0_0 e_o0_1 e_x0_0 e_x0_1 e_g0_0 e_g0_1
  refine (eqBoard_any (trW wide0 xs0 xs1) (trW wide0 xs0 xs1) ao_g0 ao_o0 (trL wide0 xs0 xs1) (trL wide0 xs0 xs1) N N c_g0 c_o0 w11 HL.out HL.out (by omega) g0.ints o0.ints).mono fun e w12 h => ?_
  rw [eqBd_self] at h
  obtain ⟨rfl, b⟩ := h
  have o0 := o0.below b (Nat.le_refl _)
  have x0 := x0.below b (Nat.le_refl _)
  have x1 := x1.below b (Nat.le_refl _)
  have g0 := g0.below b (Nat.le_refl _)
  have bk_a0 := bk_a0.below b (Nat.le_refl _)
  have bk_o0 := bk_o0.below b (Nat.le_refl _)
  have bk_x0 := bk_x0.below b (Nat.le_refl _)
  have bk_g0 := bk_g0.below b (Nat.le_refl _)
  have B := B.trans (b.mono B.size)
  clear b
  have e_a0_0 := bk_a0.at 0 rfl
  have e_a0_1 := bk_a0.at 1 rfl
  have e_o0_0 := bk_o0.at 0 rfl
  have e_o0_1 := bk_o0.at 1 rfl
  have e_x0_0 := bk_x0.at 0 rfl
  have e_x0_1 := bk_x0.at 1 rfl
  have e_g0_0 := bk_g0.at 0 rfl
  have e_g0_1 := bk_g0.at 1 rfl
  have lt_x := bk_x0.lt
  have lt_a := bk_a0.lt
  have hxi := hx0.below B (Nat.le_refl _)
  have hxo := x0.ints
  go_wp2
  go_region_held3 (fun w' => (∀ b o, b < w12.heap.size → w'.cell? ⟨b, o, none⟩ = w12.cell? ⟨b, o, none⟩) ∧ Below w12.heap.size w12 w')
    (first | exact sb_drew _ | exact sb_call ‹_› ‹_›)
    (first | (go_at_call 9; refine (toBoard_any wide0 ao0 xs0 n0 c0 _ HN0.out (by omega) (hxi.below (sb_below ‹_›) (Nat.le_refl _))).mono fun e wt h => ?_; obtain ⟨ao_t, c_t, rfl, hc_t, t, bt⟩ := h.to HN0.out; clear h) | (go_at_call 11; refine (eqBoard_any wide0 wide0 _ _ xs0 xs0 n0 n0 _ _ _ HN0.out HN0.out (by omega) (hxo.below (sb_below ‹_›) (Nat.le_refl _)) t.ints).mono fun e wu h => ?_; rw [eqBd_self] at h; obtain ⟨rfl, bu⟩ := h))
  rename_i hH
  have b := hH.2
  clear hH bt bu t hxi hxo lt_x lt_a e_a0_0 e_a0_1 e_o0_0 e_o0_1 e_x0_0 e_x0_1 e_g0_0 e_g0_1
  obtain ⟨w13, hwu⟩ : ∃ W, W = wu := ⟨_, rfl⟩
  subst hwu
  have o0 := o0.below b (Nat.le_refl _)
  have x0 := x0.below b (Nat.le_refl _)
  have x1 := x1.below b (Nat.le_refl _)
  have g0 := g0.below b (Nat.le_refl _)
  have bk_a0 := bk_a0.below b (Nat.le_refl _)
  have bk_o0 := bk_o0.below b (Nat.le_refl _)
  have bk_x0 := bk_x0.below b (Nat.le_refl _)
  have bk_g0 := bk_g0.below b (Nat.le_refl _)
  have B := B.trans (b.mono B.size)
  clear b
  have e_a0_0 := bk_a0.at 0 rfl
  have e_a0_1 := bk_a0.at 1 rfl
  have e_o0_0 := bk_o0.at 0 rfl
  have e_o0_1 := bk_o0.at 1 rfl
  have e_x0_0 := bk_x0.at 0 rfl
  have e_x0_1 := bk_x0.at 1 rfl
  have e_g0_0 := bk_g0.at 0 rfl
  have e_g0_1 := bk_g0.at 1 rfl
  go_wp2_with fail
  clear e_a0_0 e_a0_1 e_o0_0 e_o0_1 e_x0_0 e_x0_1 e_g0_0 e_g0_1
  refine (toIntS_any ao1 xs1 n1 c1 w13 HN1.out (by omega) (hx1.below B (Nat.le_refl _))).mono fun e w14 h => ?_
  obtain ⟨rfl, t1, b⟩ := h
  have ap_x0_t1 := x0.apart t1 (Nat.le_refl _)
  have ap_t1_x0 := x0.apart' t1 (Nat.le_refl _)
  have ap_x1_t1 := x1.apart t1 (Nat.le_refl _)
  have ap_t1_x1 := x1.apart' t1 (Nat.le_refl _)
  have ap_g0_t1 := g0.apart t1 (Nat.le_refl _)
  have ap_t1_g0 := g0.apart' t1 (Nat.le_refl _)
  have hs_t1 := B.size
  have o0 := o0.below b (Nat.le_refl _)
  have x0 := x0.below b (Nat.le_refl _)
  have x1 := x1.below b (Nat.le_refl _)
  have g0 := g0.below b (Nat.le_refl _)
  have bk_a0 := bk_a0.below b (Nat.le_refl _)
  have bk_o0 := bk_o0.below b (Nat.le_refl _)
  have bk_x0 := bk_x0.below b (Nat.le_refl _)
  have bk_g0 := bk_g0.below b (Nat.le_refl _)
  have B := B.trans (b.mono B.size)
  clear b
  have e_a0_0 := bk_a0.at 0 rfl
  have e_a0_1 := bk_a0.at 1 rfl
  have e_o0_0 := bk_o0.at 0 rfl
  have e_o0_1 := bk_o0.at 1 rfl
  have e_x0_0 := bk_x0.at 0 rfl
  have e_x0_1 := bk_x0.at 1 rfl
  have e_g0_0 := bk_g0.at 0 rfl
  have e_g0_1 := bk_g0.at 1 rfl
  go_wp2_with fail
  clear e_a0_0 e_a0_1 e_o0_0 e_o0_1 e_x0_0 e_x0_1 e_g0_0 e_g0_1
  refine (eqIntS_any _ _ xs1 xs1 n1 n1 _ _ w14 HN1.out HN1.out (by omega) x1.ints t1.ints).mono fun e w15 h => ?_
  rw [eqL_self] at h
  obtain ⟨rfl, hq⟩ := h
  have B := B.trans (hq.below _)
  have o0 := o0.qt hq
  have x0 := x0.qt hq
  have x1 := x1.qt hq
  have g0 := g0.qt hq
  have t1 := t1.qt hq
  have bk_a0 := bk_a0.qt hq
  have bk_o0 := bk_o0.qt hq
  have bk_x0 := bk_x0.qt hq
  have bk_g0 := bk_g0.qt hq
  clear hq
  clear t1
  have e_a0_0 := bk_a0.at 0 rfl
  have e_a0_1 := bk_a0.at 1 rfl
  have e_o0_0 := bk_o0.at 0 rfl
  have e_o0_1 := bk_o0.at 1 rfl
  have e_x0_0 := bk_x0.at 0 rfl
  have e_x0_1 := bk_x0.at 1 rfl
  have e_g0_0 := bk_g0.at 0 rfl
  have e_g0_1 := bk_g0.at 1 rfl
  go_wp2_with fail
  clear e_a0_0 e_a0_1 e_o0_0 e_o0_1 e_x0_0 e_x0_1 e_g0_0 e_g0_1
  refine (markBoard_any wide0 ao_x0 (xs0) n0 c_x0 w6.heap.size 1 w15 HN0.out (by omega) (by omega) (by omega) x0).mono fun e w16 h => ?_
  obtain ⟨rfl, x0', hg⟩ := h
  have B := x0.belowKept B hg hs_x0
  have o0 := o0.kept hg ap_o0_x0
  have x1 := x1.kept hg ap_x1_x0
  have g0 := g0.kept hg ap_g0_x0
  have bk_a0 := bk_a0.kept hg ne_a0_x0.out
  have bk_o0 := bk_o0.kept hg ne_o0_x0.out
  have bk_x0 := bk_x0.kept hg ne_x0_x0.out
  have bk_g0 := bk_g0.kept hg ne_g0_x0.out
  clear x0 hg
  have e_a0_0 := bk_a0.at 0 rfl
  have e_a0_1 := bk_a0.at 1 rfl
  have e_o0_0 := bk_o0.at 0 rfl
  have e_o0_1 := bk_o0.at 1 rfl
  have e_x0_0 := bk_x0.at 0 rfl
  have e_x0_1 := bk_x0.at 1 rfl
  have e_g0_0 := bk_g0.at 0 rfl
  have e_g0_1 := bk_g0.at 1 rfl
  go_wp2_with fail
  clear e_a0_0 e_a0_1 e_o0_0 e_o0_1 e_x0_0 e_x0_1 e_g0_0 e_g0_1
  refine (markIntS_any _ (xs1) n1 n1 w8.heap.size (1 + n0) w16 HN1.out (by omega) (by omega) (by omega) x1).mono fun e w17 h => ?_
  obtain ⟨rfl, x1', hg⟩ := h
  have B := x1.belowKept B hg hs_x1
  have o0 := o0.kept hg ap_o0_x1
  have g0 := g0.kept hg ap_g0_x1
  clear x0'
  have bk_a0 := bk_a0.kept hg ne_a0_x1.out
  have bk_o0 := bk_o0.kept hg ne_o0_x1.out
  have bk_x0 := bk_x0.kept hg ne_x0_x1.out
  have bk_g0 := bk_g0.kept hg ne_g0_x1.out
  clear x1 hg
  clear bk_x0
  clear x1'
  have e_a0_0 := bk_a0.at 0 rfl
  have e_a0_1 := bk_a0.at 1 rfl
  have e_o0_0 := bk_o0.at 0 rfl
  have e_o0_1 := bk_o0.at 1 rfl
  have e_g0_0 := bk_g0.at 0 rfl
  have e_g0_1 := bk_g0.at 1 rfl
  go_wp2_with fail
  clear e_a0_0 e_a0_1 e_o0_0 e_o0_1 e_g0_0 e_g0_1
  refine (eqBoard_any (trW wide0 xs0 xs1) (trW wide0 xs0 xs1) ao_g0 ao_o0 (trL wide0 xs0 xs1) (trL wide0 xs0 xs1) N N c_g0 c_o0 w17 HL.out HL.out (by omega) g0.ints o0.ints).mono fun e w18 h => ?_
  rw [eqBd_self] at h
  obtain ⟨rfl, b⟩ := h
  have o0 := o0.below b (Nat.le_refl _)
  have g0 := g0.below b (Nat.le_refl _)
  have bk_a0 := bk_a0.below b (Nat.le_refl _)
  have bk_o0 := bk_o0.below b (Nat.le_refl _)
  have bk_g0 := bk_g0.below b (Nat.le_refl _)
  have B := B.trans (b.mono B.size)
  clear b
  have e_a0_0 := bk_a0.at 0 rfl
  have e_a0_1 := bk_a0.at 1 rfl
  have e_o0_0 := bk_o0.at 0 rfl
  have e_o0_1 := bk_o0.at 1 rfl
  have e_g0_0 := bk_g0.at 0 rfl
  have e_g0_1 := bk_g0.at 1 rfl
  go_wp2_with fail
  clear e_a0_0 e_a0_1 e_o0_0 e_o0_1 e_g0_0 e_g0_1
  refine (markBoard_any (trW wide0 xs0 xs1) ao_g0 (trL wide0 xs0 xs1) N c_g0 w9.heap.size 1 w18 HL.out (by omega) (by omega) (by omega) g0).mono fun e w19 h => ?_
  obtain ⟨rfl, g0', hg⟩ := h
  have B := g0.belowKept B hg hs_g0
  have o0 := o0.kept hg ap_o0_g0
  have bk_a0 := bk_a0.kept hg ne_a0_g0.out
  have bk_o0 := bk_o0.kept hg ne_o0_g0.out
  have bk_g0 := bk_g0.kept hg ne_g0_g0.out
  clear g0 hg
  have e_a0_0 := bk_a0.at 0 rfl
  have e_a0_1 := bk_a0.at 1 rfl
  have e_o0_0 := bk_o0.at 0 rfl
  have e_o0_1 := bk_o0.at 1 rfl
  have e_g0_0 := bk_g0.at 0 rfl
  have e_g0_1 := bk_g0.at 1 rfl
  go_wp2_with fail
  clear e_a0_0 e_a0_1 e_o0_0 e_o0_1 e_g0_0 e_g0_1
  refine (heldBoard_any (trW wide0 xs0 xs1) ao_g0 N c_g0 1 w19 (by omega) (by omega) (by omega) g0'.ints).mono fun e w20 h => ?_
  obtain ⟨rfl, b⟩ := h
  have o0 := o0.below b (Nat.le_refl _)
  have g0' := g0'.below b (Nat.le_refl _)
  have bk_a0 := bk_a0.below b (Nat.le_refl _)
  have bk_o0 := bk_o0.below b (Nat.le_refl _)
  have bk_g0 := bk_g0.below b (Nat.le_refl _)
  have B := B.trans (b.mono B.size)
  clear b
  have e_a0_0 := bk_a0.at 0 rfl
  have e_a0_1 := bk_a0.at 1 rfl
  have e_o0_0 := bk_o0.at 0 rfl
  have e_o0_1 := bk_o0.at 1 rfl
  have e_g0_0 := bk_g0.at 0 rfl
  have e_g0_1 := bk_g0.at 1 rfl
  go_wp2_with fail
  clear e_a0_0 e_a0_1 e_o0_0 e_o0_1 e_g0_0 e_g0_1
  refine (toBoard_any wide0 ao0 xs0 n0 c0 w20 HN0.out (by omega) (hx0.below B (Nat.le_refl _))).mono fun e w21 h => ?_
  obtain ⟨ao_t0, c_t0, rfl, hc_t0, t0, b⟩ := h.to HN0.out
  clear h
  have hs_t0 := B.size
  have o0 := o0.below b (Nat.le_refl _)
  have g0' := g0'.below b (Nat.le_refl _)
  have bk_a0 := bk_a0.below b (Nat.le_refl _)
  have bk_o0 := bk_o0.below b (Nat.le_refl _)
  have bk_g0 := bk_g0.below b (Nat.le_refl _)
  have B := B.trans (b.mono B.size)
  clear b
  have e_a0_0 := bk_a0.at 0 rfl
  have e_a0_1 := bk_a0.at 1 rfl
  have e_o0_0 := bk_o0.at 0 rfl
  have e_o0_1 := bk_o0.at 1 rfl
  have e_g0_0 := bk_g0.at 0 rfl
  have e_g0_1 := bk_g0.at 1 rfl
  go_wp2_with fail
  clear e_a0_0 e_a0_1 e_o0_0 e_o0_1 e_g0_0 e_g0_1
  refine (toIntS_any ao1 xs1 n1 c1 w21 HN1.out (by omega) (hx1.below B (Nat.le_refl _))).mono fun e w22 h => ?_
  obtain ⟨rfl, t1, b⟩ := h
  have hs_t1 := B.size
  have o0 := o0.below b (Nat.le_refl _)
  have g0' := g0'.below b (Nat.le_refl _)
  have t0 := t0.below b (Nat.le_refl _)
  have bk_a0 := bk_a0.below b (Nat.le_refl _)
  have bk_o0 := bk_o0.below b (Nat.le_refl _)
  have bk_g0 := bk_g0.below b (Nat.le_refl _)
  have B := B.trans (b.mono B.size)
  clear b
  have e_a0_0 := bk_a0.at 0 rfl
  have e_a0_1 := bk_a0.at 1 rfl
  have e_o0_0 := bk_o0.at 0 rfl
  have e_o0_1 := bk_o0.at 1 rfl
  have e_g0_0 := bk_g0.at 0 rfl
  have e_g0_1 := bk_g0.at 1 rfl
  go_wp2_with fail
  clear e_a0_0 e_a0_1 e_o0_0 e_o0_1 e_g0_0 e_g0_1
  refine (implTilesRun_any wide0 ao_t0 xs0 n0 c_t0 _ xs1 n1 n1 w22 HN0.out (by omega) t0.ints HN1.out (by omega) t1.ints).mono fun e w23 h => ?_
  obtain ⟨ao_h0, c_h0, rfl, hc_h0, h0, b⟩ := h.to HL.out
  clear h
  have hs_h0 := B.size
  have o0 := o0.below b (Nat.le_refl _)
  have g0' := g0'.below b (Nat.le_refl _)
  have t0 := t0.below b (Nat.le_refl _)
  have t1 := t1.below b (Nat.le_refl _)
  have bk_a0 := bk_a0.below b (Nat.le_refl _)
  have bk_o0 := bk_o0.below b (Nat.le_refl _)
  have bk_g0 := bk_g0.below b (Nat.le_refl _)
  have B := B.trans (b.mono B.size)
  clear b
  clear t0
  clear t1
  have bk_h0 := Blk.new w23 #[.int .i64 (trW wide0 xs0 xs1), .slice ao_h0 N c_h0] 26
  have o0 := o0.alloc (.cells #[.int .i64 (trW wide0 xs0 xs1), .slice ao_h0 N c_h0] 26)
  have g0' := g0'.alloc (.cells #[.int .i64 (trW wide0 xs0 xs1), .slice ao_h0 N c_h0] 26)
  have h0 := h0.alloc (.cells #[.int .i64 (trW wide0 xs0 xs1), .slice ao_h0 N c_h0] 26)
  have bk_a0 := bk_a0.alloc (.cells #[.int .i64 (trW wide0 xs0 xs1), .slice ao_h0 N c_h0] 26)
  have bk_o0 := bk_o0.alloc (.cells #[.int .i64 (trW wide0 xs0 xs1), .slice ao_h0 N c_h0] 26)
  have bk_g0 := bk_g0.alloc (.cells #[.int .i64 (trW wide0 xs0 xs1), .slice ao_h0 N c_h0] 26)
  have B := B.alloc B.size (.cells #[.int .i64 (trW wide0 xs0 xs1), .slice ao_h0 N c_h0] 26)
  have e_a0_0 := bk_a0.at 0 rfl
  have e_a0_1 := bk_a0.at 1 rfl
  have e_o0_0 := bk_o0.at 0 rfl
  have e_o0_1 := bk_o0.at 1 rfl
  have e_g0_0 := bk_g0.at 0 rfl
  have e_g0_1 := bk_g0.at 1 rfl
  have e_h0_0 := bk_h0.at 0 rfl
  have e_h0_1 := bk_h0.at 1 rfl
  go_wp2_with fail
  generalize (w23.alloc (.cells #[.int .i64 (trW wide0 xs0 xs1), .slice ao_h0 N c_h0] 26)) = w24 at *
  clear e_a0_0 e_a0_1 e_o0_0 e_o0_1 e_g0_0 e_g0_1 e_h0_0 e_h0_1
  refine (eqBoard_any (trW wide0 xs0 xs1) (trW wide0 xs0 xs1) ao_h0 ao_o0 (trL wide0 xs0 xs1) (trL wide0 xs0 xs1) N N c_h0 c_o0 w24 HL.out HL.out (by omega) h0.ints o0.ints).mono fun e w25 h => ?_
  rw [eqBd_self] at h
  obtain ⟨rfl, b⟩ := h
  have o0 := o0.below b (Nat.le_refl _)
  have g0' := g0'.below b (Nat.le_refl _)
  have h0 := h0.below b (Nat.le_refl _)
  have bk_a0 := bk_a0.below b (Nat.le_refl _)
  have bk_o0 := bk_o0.below b (Nat.le_refl _)
  have bk_g0 := bk_g0.below b (Nat.le_refl _)
  have bk_h0 := bk_h0.below b (Nat.le_refl _)
  have B := B.trans (b.mono B.size)
  clear b
  clear h0
  clear o0
  have e_a0_0 := bk_a0.at 0 rfl
  have e_a0_1 := bk_a0.at 1 rfl
  have e_o0_0 := bk_o0.at 0 rfl
  have e_o0_1 := bk_o0.at 1 rfl
  have e_g0_0 := bk_g0.at 0 rfl
  have e_g0_1 := bk_g0.at 1 rfl
  have e_h0_0 := bk_h0.at 0 rfl
  have e_h0_1 := bk_h0.at 1 rfl
  go_wp2_with fail
  clear e_a0_0 e_a0_1 e_o0_0 e_o0_1 e_g0_0 e_g0_1 e_h0_0 e_h0_1
  refine (heldBoard_any (trW wide0 xs0 xs1) ao_g0 N c_g0 1 w25 (by omega) (by omega) (by omega) g0'.ints).mono fun e w26 h => ?_
  obtain ⟨rfl, b⟩ := h
  have g0' := g0'.below b (Nat.le_refl _)
  have bk_a0 := bk_a0.below b (Nat.le_refl _)
  have bk_o0 := bk_o0.below b (Nat.le_refl _)
  have bk_g0 := bk_g0.below b (Nat.le_refl _)
  have bk_h0 := bk_h0.below b (Nat.le_refl _)
  have B := B.trans (b.mono B.size)
  clear b
  go_wp2_with fail
  go_ret
  exact ⟨rfl, B⟩

end Go.Proofs.Ytcllknedidpnaaa

/- The walk of the law FnExactTileMove. -/
import Derived.Test.YtcllknedidpnaaaTd
import Derived.Deep.RegionHeld3
namespace Go.Proofs.Ytcllknedidpnaaa
open Go Go.RowKit

set_option maxRecDepth 100000 in
set_option maxHeartbeats 4000000 in
theorem fnExactTileMove_walk (w : World) (wide0 : Int) (_hw0 : -9223372036854775808 ≤ wide0 ∧ wide0 ≤ 9223372036854775807) (ao0 : Option Addr) (xs0 : List Int) (n0 c0 : Nat) (hn0 : xs0.length = n0) (_hnc0 : n0 ≤ c0) (hcm0 : c0 ≤ 9223372036854775807) (hx0 : IntsAt w ao0 xs0) (_h60 : I64 xs0) (p1 : Int) (_hp1 : -9223372036854775808 ≤ p1 ∧ p1 ≤ 9223372036854775807) :
    Calls Try.prog 3 #[.agg #[.int .i64 wide0, .slice ao0 n0 c0], .int .i64 p1] w fun e w' => e = .returned (.bool true) ∧ Below w.heap.size w w' := by
  have HN0 := hid hn0
  clear hn0
  have B := Below.refl w.heap.size w
  go_enter Try.func3, Try.ntmps3
  have bk_a0 := Blk.new w #[.int .i64 wide0, .slice ao0 n0 c0] 24
  have B := B.alloc B.size (.cells #[.int .i64 wide0, .slice ao0 n0 c0] 24)
  have e_a0_0 := bk_a0.at 0 rfl
  have e_a0_1 := bk_a0.at 1 rfl
  go_wp2_with fail
  generalize (w.alloc (.cells #[.int .i64 wide0, .slice ao0 n0 c0] 24)) = w1 at *
  clear e_a0_0 e_a0_1
  refine (szBoard_any wide0 ao0 n0 c0 1048576 w1 (by omega) (by omega) (by omega)).mono fun e w2 h => ?_
  obtain ⟨rfl, b⟩ := h
  have bk_a0 := bk_a0.below b (Nat.le_refl _)
  have B := B.trans (b.mono B.size)
  clear b
  have e_a0_0 := bk_a0.at 0 rfl
  have e_a0_1 := bk_a0.at 1 rfl
  by_cases hsz : szV 1048576 n0 < 0
  · have hd : decide (szV 1048576 n0 < 0) = true := decide_eq_true hsz
    go_wp2_with fail
    go_ret
    exact ⟨rfl, B⟩
  clear e_a0_0 e_a0_1
  have hd : decide (szV 1048576 n0 < 0) = false := decide_eq_false hsz
  have hcap0 : n0 ≤ 1048576 := by have := szV_le hsz; omega
  obtain ⟨N, hN⟩ : ∃ N, (tmL wide0 xs0 p1).length = N := ⟨_, rfl⟩
  have hNl : N ≤ 17592186044416 - 1048576 := by rw [← hN]; exact length_tmL _ _ _
  have HL := hid hN
  clear hN
  have hbb : (canB wide0 xs0 p1 != canB wide0 xs0 p1) = false := by simp
  have hk0 : decide ((1 : Int) + n0 < 0) = false := decide_eq_false (by omega)
  have hm0 : decide ((1 : Int) + N < 0) = false := decide_eq_false (by omega)
  have hm1 : ((1 : Int) + N != 1 + N) = false := by simp
  have e_a0_0 := bk_a0.at 0 rfl
  have e_a0_1 := bk_a0.at 1 rfl
  go_wp2_with fail
  clear e_a0_0 e_a0_1
  refine (toBoard_any wide0 ao0 xs0 n0 c0 w2 HN0.out (by omega) (hx0.below B (Nat.le_refl _))).mono fun e w3 h => ?_
  obtain ⟨ao_t0, c_t0, rfl, hc_t0, t0, b⟩ := h.to HN0.out
  clear h
  have hs_t0 := B.size
  have bk_a0 := bk_a0.below b (Nat.le_refl _)
  have B := B.trans (b.mono B.size)
  clear b
  have e_a0_0 := bk_a0.at 0 rfl
  have e_a0_1 := bk_a0.at 1 rfl
  go_wp2_with fail
  clear e_a0_0 e_a0_1
  refine (specTileMove_any wide0 ao_t0 xs0 n0 c_t0 p1 w3 HN0.out (by omega) hc_t0 t0.ints).mono fun e w4 h => ?_
  obtain ⟨ao_o0, c_o0, rfl, hc_o0, o0, b⟩ := h.to HL.out
  clear h
  have hs_o0 := B.size
  have t0 := t0.below b (Nat.le_refl _)
  have bk_a0 := bk_a0.below b (Nat.le_refl _)
  have B := B.trans (b.mono B.size)
  clear b
  clear t0
  have bk_o0 := Blk.new w4 #[.int .i64 (tmW wide0 xs0), .slice ao_o0 N c_o0] 26
  have o0 := o0.alloc (.cells #[.int .i64 (tmW wide0 xs0), .slice ao_o0 N c_o0] 26)
  have bk_a0 := bk_a0.alloc (.cells #[.int .i64 (tmW wide0 xs0), .slice ao_o0 N c_o0] 26)
  have B := B.alloc B.size (.cells #[.int .i64 (tmW wide0 xs0), .slice ao_o0 N c_o0] 26)
  have e_a0_0 := bk_a0.at 0 rfl
  have e_a0_1 := bk_a0.at 1 rfl
  have e_o0_0 := bk_o0.at 0 rfl
  have e_o0_1 := bk_o0.at 1 rfl
  go_wp2_with fail
  generalize (w4.alloc (.cells #[.int .i64 (tmW wide0 xs0), .slice ao_o0 N c_o0] 26)) = w5 at *
  clear e_a0_0 e_a0_1 e_o0_0 e_o0_1
  refine (toBoard_any wide0 ao0 xs0 n0 c0 w5 HN0.out (by omega) (hx0.below B (Nat.le_refl _))).mono fun e w6 h => ?_
  obtain ⟨ao_x0, c_x0, rfl, hc_x0, x0, b⟩ := h.to HN0.out
  clear h
  have ap_o0_x0 := o0.apart x0 (Nat.le_refl _)
  have ap_x0_o0 := o0.apart' x0 (Nat.le_refl _)
  have ne_a0_x0 := hid (x0.ne_blk bk_a0.lt)
  have ne_o0_x0 := hid (x0.ne_blk bk_o0.lt)
  have hs_x0 := B.size
  have o0 := o0.below b (Nat.le_refl _)
  have bk_a0 := bk_a0.below b (Nat.le_refl _)
  have bk_o0 := bk_o0.below b (Nat.le_refl _)
  have B := B.trans (b.mono B.size)
  clear b
  have ne_x0_x0 := hid x0.ne_new
  have bk_x0 := Blk.new w6 #[.int .i64 wide0, .slice ao_x0 n0 c_x0] 26
  have o0 := o0.alloc (.cells #[.int .i64 wide0, .slice ao_x0 n0 c_x0] 26)
  have x0 := x0.alloc (.cells #[.int .i64 wide0, .slice ao_x0 n0 c_x0] 26)
  have bk_a0 := bk_a0.alloc (.cells #[.int .i64 wide0, .slice ao_x0 n0 c_x0] 26)
  have bk_o0 := bk_o0.alloc (.cells #[.int .i64 wide0, .slice ao_x0 n0 c_x0] 26)
  have B := B.alloc B.size (.cells #[.int .i64 wide0, .slice ao_x0 n0 c_x0] 26)
  have e_a0_0 := bk_a0.at 0 rfl
  have e_a0_1 := bk_a0.at 1 rfl
  have e_o0_0 := bk_o0.at 0 rfl
  have e_o0_1 := bk_o0.at 1 rfl
  have e_x0_0 := bk_x0.at 0 rfl
  have e_x0_1 := bk_x0.at 1 rfl
  go_wp2_with fail
  generalize (w6.alloc (.cells #[.int .i64 wide0, .slice ao_x0 n0 c_x0] 26)) = w7 at *
  clear e_a0_0 e_a0_1 e_o0_0 e_o0_1 e_x0_0 e_x0_1
  refine (implTileMove_any wide0 ao_x0 xs0 n0 c_x0 p1 w7 HN0.out (by omega) x0.ints).mono fun e w8 h => ?_
  obtain ⟨ao_g0, c_g0, rfl, hc_g0, g0, b⟩ := h.to HL.out
  clear h
  have ap_o0_g0 := o0.apart g0 (Nat.le_refl _)
  have ap_g0_o0 := o0.apart' g0 (Nat.le_refl _)
  have ap_x0_g0 := x0.apart g0 (Nat.le_refl _)
  have ap_g0_x0 := x0.apart' g0 (Nat.le_refl _)
  have ne_a0_g0 := hid (g0.ne_blk bk_a0.lt)
  have ne_o0_g0 := hid (g0.ne_blk bk_o0.lt)
  have ne_x0_g0 := hid (g0.ne_blk bk_x0.lt)
  have hs_g0 := B.size
  have o0 := o0.below b (Nat.le_refl _)
  have x0 := x0.below b (Nat.le_refl _)
  have bk_a0 := bk_a0.below b (Nat.le_refl _)
  have bk_o0 := bk_o0.below b (Nat.le_refl _)
  have bk_x0 := bk_x0.below b (Nat.le_refl _)
  have B := B.trans (b.mono B.size)
  clear b
  have ne_g0_x0 := hid x0.ne_new
  have ne_g0_g0 := hid g0.ne_new
  have bk_g0 := Blk.new w8 #[.int .i64 (tmW wide0 xs0), .slice ao_g0 N c_g0] 26
  have o0 := o0.alloc (.cells #[.int .i64 (tmW wide0 xs0), .slice ao_g0 N c_g0] 26)
  have x0 := x0.alloc (.cells #[.int .i64 (tmW wide0 xs0), .slice ao_g0 N c_g0] 26)
  have g0 := g0.alloc (.cells #[.int .i64 (tmW wide0 xs0), .slice ao_g0 N c_g0] 26)
  have bk_a0 := bk_a0.alloc (.cells #[.int .i64 (tmW wide0 xs0), .slice ao_g0 N c_g0] 26)
  have bk_o0 := bk_o0.alloc (.cells #[.int .i64 (tmW wide0 xs0), .slice ao_g0 N c_g0] 26)
  have bk_x0 := bk_x0.alloc (.cells #[.int .i64 (tmW wide0 xs0), .slice ao_g0 N c_g0] 26)
  have B := B.alloc B.size (.cells #[.int .i64 (tmW wide0 xs0), .slice ao_g0 N c_g0] 26)
  have e_a0_0 := bk_a0.at 0 rfl
  have e_a0_1 := bk_a0.at 1 rfl
  have e_o0_0 := bk_o0.at 0 rfl
  have e_o0_1 := bk_o0.at 1 rfl
  have e_x0_0 := bk_x0.at 0 rfl
  have e_x0_1 := bk_x0.at 1 rfl
  have e_g0_0 := bk_g0.at 0 rfl
  have e_g0_1 := bk_g0.at 1 rfl
  go_wp2_with fail
  generalize (w8.alloc (.cells #[.int .i64 (tmW wide0 xs0), .slice ao_g0 N c_g0] 26)) = w9 at *
  clear e_a0_0 e_a0_1 e_o0_0 e_o0_1 e_x0_0 e_x0_1 e_g0_0 e_g0_1
  refine (eqBoard_any (tmW wide0 xs0) (tmW wide0 xs0) ao_g0 ao_o0 (tmL wide0 xs0 p1) (tmL wide0 xs0 p1) N N c_g0 c_o0 w9 HL.out HL.out (by omega) g0.ints o0.ints).mono fun e w10 h => ?_
  rw [eqBd_self] at h
  obtain ⟨rfl, b⟩ := h
  have o0 := o0.below b (Nat.le_refl _)
  have x0 := x0.below b (Nat.le_refl _)
  have g0 := g0.below b (Nat.le_refl _)
  have bk_a0 := bk_a0.below b (Nat.le_refl _)
  have bk_o0 := bk_o0.below b (Nat.le_refl _)
  have bk_x0 := bk_x0.below b (Nat.le_refl _)
  have bk_g0 := bk_g0.below b (Nat.le_refl _)
  have B := B.trans (b.mono B.size)
  clear b
  have e_a0_0 := bk_a0.at 0 rfl
  have e_a0_1 := bk_a0.at 1 rfl
  have e_o0_0 := bk_o0.at 0 rfl
  have e_o0_1 := bk_o0.at 1 rfl
  have e_x0_0 := bk_x0.at 0 rfl
  have e_x0_1 := bk_x0.at 1 rfl
  have e_g0_0 := bk_g0.at 0 rfl
  have e_g0_1 := bk_g0.at 1 rfl
  have lt_x := bk_x0.lt
  have lt_a := bk_a0.lt
  have hxi := hx0.below B (Nat.le_refl _)
  have hxo := x0.ints
  go_wp2
  go_region_held3 (fun w' => (∀ b o, b < w10.heap.size → w'.cell? ⟨b, o, none⟩ = w10.cell? ⟨b, o, none⟩) ∧ Below w10.heap.size w10 w')
    (first | exact sb_drew _ | exact sb_call ‹_› ‹_›)
    (first | (go_at_call 9; refine (toBoard_any wide0 ao0 xs0 n0 c0 _ HN0.out (by omega) (hxi.below (sb_below ‹_›) (Nat.le_refl _))).mono fun e wt h => ?_; obtain ⟨ao_t, c_t, rfl, hc_t, t, bt⟩ := h.to HN0.out; clear h) | (go_at_call 11; refine (eqBoard_any wide0 wide0 _ _ xs0 xs0 n0 n0 _ _ _ HN0.out HN0.out (by omega) (hxo.below (sb_below ‹_›) (Nat.le_refl _)) t.ints).mono fun e wu h => ?_; rw [eqBd_self] at h; obtain ⟨rfl, bu⟩ := h))
  rename_i hH
  have b := hH.2
  clear hH bt bu t hxi hxo lt_x lt_a e_a0_0 e_a0_1 e_o0_0 e_o0_1 e_x0_0 e_x0_1 e_g0_0 e_g0_1
  obtain ⟨w11, hwu⟩ : ∃ W, W = wu := ⟨_, rfl⟩
  subst hwu
  have o0 := o0.below b (Nat.le_refl _)
  have x0 := x0.below b (Nat.le_refl _)
  have g0 := g0.below b (Nat.le_refl _)
  have bk_a0 := bk_a0.below b (Nat.le_refl _)
  have bk_o0 := bk_o0.below b (Nat.le_refl _)
  have bk_x0 := bk_x0.below b (Nat.le_refl _)
  have bk_g0 := bk_g0.below b (Nat.le_refl _)
  have B := B.trans (b.mono B.size)
  clear b
  have e_a0_0 := bk_a0.at 0 rfl
  have e_a0_1 := bk_a0.at 1 rfl
  have e_o0_0 := bk_o0.at 0 rfl
  have e_o0_1 := bk_o0.at 1 rfl
  have e_x0_0 := bk_x0.at 0 rfl
  have e_x0_1 := bk_x0.at 1 rfl
  have e_g0_0 := bk_g0.at 0 rfl
  have e_g0_1 := bk_g0.at 1 rfl
  go_wp2_with fail
  clear e_a0_0 e_a0_1 e_o0_0 e_o0_1 e_x0_0 e_x0_1 e_g0_0 e_g0_1
  refine (markBoard_any wide0 ao_x0 (xs0) n0 c_x0 w5.heap.size 1 w11 HN0.out (by omega) (by omega) (by omega) x0).mono fun e w12 h => ?_
  obtain ⟨rfl, x0', hg⟩ := h
  have B := x0.belowKept B hg hs_x0
  have o0 := o0.kept hg ap_o0_x0
  have g0 := g0.kept hg ap_g0_x0
  have bk_a0 := bk_a0.kept hg ne_a0_x0.out
  have bk_o0 := bk_o0.kept hg ne_o0_x0.out
  have bk_x0 := bk_x0.kept hg ne_x0_x0.out
  have bk_g0 := bk_g0.kept hg ne_g0_x0.out
  clear x0 hg
  clear x0'
  clear bk_x0
  have e_a0_0 := bk_a0.at 0 rfl
  have e_a0_1 := bk_a0.at 1 rfl
  have e_o0_0 := bk_o0.at 0 rfl
  have e_o0_1 := bk_o0.at 1 rfl
  have e_g0_0 := bk_g0.at 0 rfl
  have e_g0_1 := bk_g0.at 1 rfl
  go_wp2_with fail
  clear e_a0_0 e_a0_1 e_o0_0 e_o0_1 e_g0_0 e_g0_1
  refine (eqBoard_any (tmW wide0 xs0) (tmW wide0 xs0) ao_g0 ao_o0 (tmL wide0 xs0 p1) (tmL wide0 xs0 p1) N N c_g0 c_o0 w12 HL.out HL.out (by omega) g0.ints o0.ints).mono fun e w13 h => ?_
  rw [eqBd_self] at h
  obtain ⟨rfl, b⟩ := h
  have o0 := o0.below b (Nat.le_refl _)
  have g0 := g0.below b (Nat.le_refl _)
  have bk_a0 := bk_a0.below b (Nat.le_refl _)
  have bk_o0 := bk_o0.below b (Nat.le_refl _)
  have bk_g0 := bk_g0.below b (Nat.le_refl _)
  have B := B.trans (b.mono B.size)
  clear b
  have e_a0_0 := bk_a0.at 0 rfl
  have e_a0_1 := bk_a0.at 1 rfl
  have e_o0_0 := bk_o0.at 0 rfl
  have e_o0_1 := bk_o0.at 1 rfl
  have e_g0_0 := bk_g0.at 0 rfl
  have e_g0_1 := bk_g0.at 1 rfl
  go_wp2_with fail
  clear e_a0_0 e_a0_1 e_o0_0 e_o0_1 e_g0_0 e_g0_1
  refine (markBoard_any (tmW wide0 xs0) ao_g0 (tmL wide0 xs0 p1) N c_g0 w7.heap.size 1 w13 HL.out (by omega) (by omega) (by omega) g0).mono fun e w14 h => ?_
  obtain ⟨rfl, g0', hg⟩ := h
  have B := g0.belowKept B hg hs_g0
  have o0 := o0.kept hg ap_o0_g0
  have bk_a0 := bk_a0.kept hg ne_a0_g0.out
  have bk_o0 := bk_o0.kept hg ne_o0_g0.out
  have bk_g0 := bk_g0.kept hg ne_g0_g0.out
  clear g0 hg
  have e_a0_0 := bk_a0.at 0 rfl
  have e_a0_1 := bk_a0.at 1 rfl
  have e_o0_0 := bk_o0.at 0 rfl
  have e_o0_1 := bk_o0.at 1 rfl
  have e_g0_0 := bk_g0.at 0 rfl
  have e_g0_1 := bk_g0.at 1 rfl
  go_wp2_with fail
  clear e_a0_0 e_a0_1 e_o0_0 e_o0_1 e_g0_0 e_g0_1
  refine (heldBoard_any (tmW wide0 xs0) ao_g0 N c_g0 1 w14 (by omega) (by omega) (by omega) g0'.ints).mono fun e w15 h => ?_
  obtain ⟨rfl, b⟩ := h
  have o0 := o0.below b (Nat.le_refl _)
  have g0' := g0'.below b (Nat.le_refl _)
  have bk_a0 := bk_a0.below b (Nat.le_refl _)
  have bk_o0 := bk_o0.below b (Nat.le_refl _)
  have bk_g0 := bk_g0.below b (Nat.le_refl _)
  have B := B.trans (b.mono B.size)
  clear b
  have e_a0_0 := bk_a0.at 0 rfl
  have e_a0_1 := bk_a0.at 1 rfl
  have e_o0_0 := bk_o0.at 0 rfl
  have e_o0_1 := bk_o0.at 1 rfl
  have e_g0_0 := bk_g0.at 0 rfl
  have e_g0_1 := bk_g0.at 1 rfl
  go_wp2_with fail
  clear e_a0_0 e_a0_1 e_o0_0 e_o0_1 e_g0_0 e_g0_1
  refine (toBoard_any wide0 ao0 xs0 n0 c0 w15 HN0.out (by omega) (hx0.below B (Nat.le_refl _))).mono fun e w16 h => ?_
  obtain ⟨ao_t0, c_t0, rfl, hc_t0, t0, b⟩ := h.to HN0.out
  clear h
  have hs_t0 := B.size
  have o0 := o0.below b (Nat.le_refl _)
  have g0' := g0'.below b (Nat.le_refl _)
  have bk_a0 := bk_a0.below b (Nat.le_refl _)
  have bk_o0 := bk_o0.below b (Nat.le_refl _)
  have bk_g0 := bk_g0.below b (Nat.le_refl _)
  have B := B.trans (b.mono B.size)
  clear b
  have e_a0_0 := bk_a0.at 0 rfl
  have e_a0_1 := bk_a0.at 1 rfl
  have e_o0_0 := bk_o0.at 0 rfl
  have e_o0_1 := bk_o0.at 1 rfl
  have e_g0_0 := bk_g0.at 0 rfl
  have e_g0_1 := bk_g0.at 1 rfl
  go_wp2_with fail
  clear e_a0_0 e_a0_1 e_o0_0 e_o0_1 e_g0_0 e_g0_1
  refine (implTileMove_any wide0 ao_t0 xs0 n0 c_t0 p1 w16 HN0.out (by omega) t0.ints).mono fun e w17 h => ?_
  obtain ⟨ao_h0, c_h0, rfl, hc_h0, h0, b⟩ := h.to HL.out
  clear h
  have hs_h0 := B.size
  have o0 := o0.below b (Nat.le_refl _)
  have g0' := g0'.below b (Nat.le_refl _)
  have t0 := t0.below b (Nat.le_refl _)
  have bk_a0 := bk_a0.below b (Nat.le_refl _)
  have bk_o0 := bk_o0.below b (Nat.le_refl _)
  have bk_g0 := bk_g0.below b (Nat.le_refl _)
  have B := B.trans (b.mono B.size)
  clear b
  clear t0
  have bk_h0 := Blk.new w17 #[.int .i64 (tmW wide0 xs0), .slice ao_h0 N c_h0] 26
  have o0 := o0.alloc (.cells #[.int .i64 (tmW wide0 xs0), .slice ao_h0 N c_h0] 26)
  have g0' := g0'.alloc (.cells #[.int .i64 (tmW wide0 xs0), .slice ao_h0 N c_h0] 26)
  have h0 := h0.alloc (.cells #[.int .i64 (tmW wide0 xs0), .slice ao_h0 N c_h0] 26)
  have bk_a0 := bk_a0.alloc (.cells #[.int .i64 (tmW wide0 xs0), .slice ao_h0 N c_h0] 26)
  have bk_o0 := bk_o0.alloc (.cells #[.int .i64 (tmW wide0 xs0), .slice ao_h0 N c_h0] 26)
  have bk_g0 := bk_g0.alloc (.cells #[.int .i64 (tmW wide0 xs0), .slice ao_h0 N c_h0] 26)
  have B := B.alloc B.size (.cells #[.int .i64 (tmW wide0 xs0), .slice ao_h0 N c_h0] 26)
  have e_a0_0 := bk_a0.at 0 rfl
  have e_a0_1 := bk_a0.at 1 rfl
  have e_o0_0 := bk_o0.at 0 rfl
  have e_o0_1 := bk_o0.at 1 rfl
  have e_g0_0 := bk_g0.at 0 rfl
  have e_g0_1 := bk_g0.at 1 rfl
  have e_h0_0 := bk_h0.at 0 rfl
  have e_h0_1 := bk_h0.at 1 rfl
  go_wp2_with fail
  generalize (w17.alloc (.cells #[.int .i64 (tmW wide0 xs0), .slice ao_h0 N c_h0] 26)) = w18 at *
  clear e_a0_0 e_a0_1 e_o0_0 e_o0_1 e_g0_0 e_g0_1 e_h0_0 e_h0_1
  refine (eqBoard_any (tmW wide0 xs0) (tmW wide0 xs0) ao_h0 ao_o0 (tmL wide0 xs0 p1) (tmL wide0 xs0 p1) N N c_h0 c_o0 w18 HL.out HL.out (by omega) h0.ints o0.ints).mono fun e w19 h => ?_
  rw [eqBd_self] at h
  obtain ⟨rfl, b⟩ := h
  have o0 := o0.below b (Nat.le_refl _)
  have g0' := g0'.below b (Nat.le_refl _)
  have h0 := h0.below b (Nat.le_refl _)
  have bk_a0 := bk_a0.below b (Nat.le_refl _)
  have bk_o0 := bk_o0.below b (Nat.le_refl _)
  have bk_g0 := bk_g0.below b (Nat.le_refl _)
  have bk_h0 := bk_h0.below b (Nat.le_refl _)
  have B := B.trans (b.mono B.size)
  clear b
  clear h0
  clear o0
  have e_a0_0 := bk_a0.at 0 rfl
  have e_a0_1 := bk_a0.at 1 rfl
  have e_o0_0 := bk_o0.at 0 rfl
  have e_o0_1 := bk_o0.at 1 rfl
  have e_g0_0 := bk_g0.at 0 rfl
  have e_g0_1 := bk_g0.at 1 rfl
  have e_h0_0 := bk_h0.at 0 rfl
  have e_h0_1 := bk_h0.at 1 rfl
  go_wp2_with fail
  clear e_a0_0 e_a0_1 e_o0_0 e_o0_1 e_g0_0 e_g0_1 e_h0_0 e_h0_1
  refine (heldBoard_any (tmW wide0 xs0) ao_g0 N c_g0 1 w19 (by omega) (by omega) (by omega) g0'.ints).mono fun e w20 h => ?_
  obtain ⟨rfl, b⟩ := h
  have g0' := g0'.below b (Nat.le_refl _)
  have bk_a0 := bk_a0.below b (Nat.le_refl _)
  have bk_o0 := bk_o0.below b (Nat.le_refl _)
  have bk_g0 := bk_g0.below b (Nat.le_refl _)
  have bk_h0 := bk_h0.below b (Nat.le_refl _)
  have B := B.trans (b.mono B.size)
  clear b
  go_wp2_with fail
  go_ret
  exact ⟨rfl, B⟩

end Go.Proofs.Ytcllknedidpnaaa

/- The walk of the law FnExactBoardWay. -/
import Derived.Test.YtebkmloaioegeaaSz
import Derived.Deep.RegionHeld3
namespace Go.Proofs.Ytebkmloaioegeaa
open Go Go.RowKit

set_option maxRecDepth 100000 in
set_option maxHeartbeats 4000000 in
theorem fnExactBoardWay_walk (w : World) (wide0 : Int) (_hw0 : -9223372036854775808 ≤ wide0 ∧ wide0 ≤ 9223372036854775807) (ao0 : Option Addr) (xs0 : List Int) (n0 c0 : Nat) (hn0 : xs0.length = n0) (_hnc0 : n0 ≤ c0) (hcm0 : c0 ≤ 9223372036854775807) (hx0 : IntsAt w ao0 xs0) (_h60 : I64 xs0) :
    Calls Try.prog 6 #[.agg #[.int .i64 wide0, .slice ao0 n0 c0]] w fun e w' => e = .returned (.bool true) ∧ Below w.heap.size w w' := by
  have HN0 := hid hn0
  clear hn0
  have B := Below.refl w.heap.size w
  go_enter Try.func6, Try.ntmps6
  have bk_a0 := Blk.new w #[.int .i64 wide0, .slice ao0 n0 c0] 26
  have B := B.alloc B.size (.cells #[.int .i64 wide0, .slice ao0 n0 c0] 26)
  have e_a0_0 := bk_a0.at 0 rfl
  have e_a0_1 := bk_a0.at 1 rfl
  go_wp2_with fail
  generalize (w.alloc (.cells #[.int .i64 wide0, .slice ao0 n0 c0] 26)) = w1 at *
  clear e_a0_0 e_a0_1
  refine (szBoard_any wide0 ao0 n0 c0 1048576 w1 (by omega) (by omega) (by omega)).mono fun e w2 h => ?_
  obtain ⟨rfl, b⟩ := h
  have bk_a0 := bk_a0.below b (Nat.le_refl _)
  have B := B.trans (b.mono B.size)
  clear b
  have e_a0_0 := bk_a0.at 0 rfl
  have e_a0_1 := bk_a0.at 1 rfl
  by_cases hsz : szV 1048576 n0 < 0
  · have hd : decide (szV 1048576 n0 < 0) = true := decide_eq_true hsz
    go_wp2_with fail
    go_ret
    exact ⟨rfl, B⟩
  clear e_a0_0 e_a0_1
  have hd : decide (szV 1048576 n0 < 0) = false := decide_eq_false hsz
  have hcap0 : n0 ≤ 1048576 := by have := szV_le hsz; omega
  obtain ⟨N, hN⟩ : ∃ N, (wayL wide0 xs0).length = N := ⟨_, rfl⟩
  have hNl : N ≤ 17592186044416 - 1048576 := by rw [← hN]; exact length_wayL _ _
  have HL := hid hN
  clear hN
  have hbb : (wayB wide0 xs0 != wayB wide0 xs0) = false := by simp
  have hk0 : decide ((1 : Int) + n0 < 0) = false := decide_eq_false (by omega)
  have hm0 : decide ((1 : Int) + N < 0) = false := decide_eq_false (by omega)
  have hm1 : ((1 : Int) + N != 1 + N) = false := by simp
  have e_a0_0 := bk_a0.at 0 rfl
  have e_a0_1 := bk_a0.at 1 rfl
  go_wp2_with fail
  clear e_a0_0 e_a0_1
  refine (toBoard_any wide0 ao0 xs0 n0 c0 w2 HN0.out (by omega) (hx0.below B (Nat.le_refl _))).mono fun e w3 h => ?_
  obtain ⟨ao_t0, c_t0, rfl, hc_t0, t0, b⟩ := h.to HN0.out
  clear h
  have hs_t0 := B.size
  have bk_a0 := bk_a0.below b (Nat.le_refl _)
  have B := B.trans (b.mono B.size)
  clear b
  have e_a0_0 := bk_a0.at 0 rfl
  have e_a0_1 := bk_a0.at 1 rfl
  go_wp2_with fail
  clear e_a0_0 e_a0_1
  refine (specBoardWay_any wide0 ao_t0 xs0 n0 c_t0 w3 HN0.out (by omega) hc_t0 t0.ints).mono fun e w4 h => ?_
  obtain ⟨ao_o0, c_o0, rfl, o0, b⟩ := h.to HL.out
  clear h
  have hs_o0 := B.size
  have t0 := t0.below b (Nat.le_refl _)
  have bk_a0 := bk_a0.below b (Nat.le_refl _)
  have B := B.trans (b.mono B.size)
  clear b
  clear t0
  have e_a0_0 := bk_a0.at 0 rfl
  have e_a0_1 := bk_a0.at 1 rfl
  go_wp2_with fail
  clear e_a0_0 e_a0_1
  refine (toBoard_any wide0 ao0 xs0 n0 c0 w4 HN0.out (by omega) (hx0.below B (Nat.le_refl _))).mono fun e w5 h => ?_
  obtain ⟨ao_x0, c_x0, rfl, hc_x0, x0, b⟩ := h.to HN0.out
  clear h
  have ap_o0_x0 := o0.apart x0 (Nat.le_refl _)
  have ap_x0_o0 := o0.apart' x0 (Nat.le_refl _)
  have ne_a0_x0 := hid (x0.ne_blk bk_a0.lt)
  have hs_x0 := B.size
  have o0 := o0.below b (Nat.le_refl _)
  have bk_a0 := bk_a0.below b (Nat.le_refl _)
  have B := B.trans (b.mono B.size)
  clear b
  have ne_x0_x0 := hid x0.ne_new
  have bk_x0 := Blk.new w5 #[.int .i64 wide0, .slice ao_x0 n0 c_x0] 29
  have o0 := o0.alloc (.cells #[.int .i64 wide0, .slice ao_x0 n0 c_x0] 29)
  have x0 := x0.alloc (.cells #[.int .i64 wide0, .slice ao_x0 n0 c_x0] 29)
  have bk_a0 := bk_a0.alloc (.cells #[.int .i64 wide0, .slice ao_x0 n0 c_x0] 29)
  have B := B.alloc B.size (.cells #[.int .i64 wide0, .slice ao_x0 n0 c_x0] 29)
  have e_a0_0 := bk_a0.at 0 rfl
  have e_a0_1 := bk_a0.at 1 rfl
  have e_x0_0 := bk_x0.at 0 rfl
  have e_x0_1 := bk_x0.at 1 rfl
  go_wp2_with fail
  generalize (w5.alloc (.cells #[.int .i64 wide0, .slice ao_x0 n0 c_x0] 29)) = w6 at *
  clear e_a0_0 e_a0_1 e_x0_0 e_x0_1
  refine (implBoardWay_any wide0 ao_x0 xs0 n0 c_x0 w6 HN0.out (by omega) x0.ints).mono fun e w7 h => ?_
  obtain ⟨ao_g0, c_g0, rfl, g0, b⟩ := h.to HL.out
  clear h
  have ap_o0_g0 := o0.apart g0 (Nat.le_refl _)
  have ap_g0_o0 := o0.apart' g0 (Nat.le_refl _)
  have ap_x0_g0 := x0.apart g0 (Nat.le_refl _)
  have ap_g0_x0 := x0.apart' g0 (Nat.le_refl _)
  have ne_a0_g0 := hid (g0.ne_blk bk_a0.lt)
  have ne_x0_g0 := hid (g0.ne_blk bk_x0.lt)
  have hs_g0 := B.size
  have o0 := o0.below b (Nat.le_refl _)
  have x0 := x0.below b (Nat.le_refl _)
  have bk_a0 := bk_a0.below b (Nat.le_refl _)
  have bk_x0 := bk_x0.below b (Nat.le_refl _)
  have B := B.trans (b.mono B.size)
  clear b
  have e_a0_0 := bk_a0.at 0 rfl
  have e_a0_1 := bk_a0.at 1 rfl
  have e_x0_0 := bk_x0.at 0 rfl
  have e_x0_1 := bk_x0.at 1 rfl
  go_wp2_with fail
  clear e_a0_0 e_a0_1 e_x0_0 e_x0_1
  refine (eqIntS_any ao_g0 ao_o0 (wayL wide0 xs0) (wayL wide0 xs0) N N c_g0 c_o0 w7 HL.out HL.out (by omega) g0.ints o0.ints).mono fun e w8 h => ?_
  rw [eqL_self] at h
  obtain ⟨rfl, hq⟩ := h
  have B := B.trans (hq.below _)
  have o0 := o0.qt hq
  have x0 := x0.qt hq
  have g0 := g0.qt hq
  have bk_a0 := bk_a0.qt hq
  have bk_x0 := bk_x0.qt hq
  clear hq
  have e_a0_0 := bk_a0.at 0 rfl
  have e_a0_1 := bk_a0.at 1 rfl
  have e_x0_0 := bk_x0.at 0 rfl
  have e_x0_1 := bk_x0.at 1 rfl
  have lt_x := bk_x0.lt
  have lt_a := bk_a0.lt
  have hxi := hx0.below B (Nat.le_refl _)
  have hxo := x0.ints
  go_wp2
  go_region_held3 (fun w' => (∀ b o, b < w8.heap.size → w'.cell? ⟨b, o, none⟩ = w8.cell? ⟨b, o, none⟩) ∧ Below w8.heap.size w8 w')
    (first | exact sb_drew _ | exact sb_call ‹_› ‹_›)
    (first | (go_at_call 15; refine (toBoard_any wide0 ao0 xs0 n0 c0 _ HN0.out (by omega) (hxi.below (sb_below ‹_›) (Nat.le_refl _))).mono fun e wt h => ?_; obtain ⟨ao_t, c_t, rfl, hc_t, t, bt⟩ := h.to HN0.out; clear h) | (go_at_call 17; refine (eqBoard_any wide0 wide0 _ _ xs0 xs0 n0 n0 _ _ _ HN0.out HN0.out (by omega) (hxo.below (sb_below ‹_›) (Nat.le_refl _)) t.ints).mono fun e wu h => ?_; rw [eqBd_self] at h; obtain ⟨rfl, bu⟩ := h))
  rename_i hH
  have b := hH.2
  clear hH bt bu t hxi hxo lt_x lt_a e_a0_0 e_a0_1 e_x0_0 e_x0_1
  obtain ⟨w9, hwu⟩ : ∃ W, W = wu := ⟨_, rfl⟩
  subst hwu
  have o0 := o0.below b (Nat.le_refl _)
  have x0 := x0.below b (Nat.le_refl _)
  have g0 := g0.below b (Nat.le_refl _)
  have bk_a0 := bk_a0.below b (Nat.le_refl _)
  have bk_x0 := bk_x0.below b (Nat.le_refl _)
  have B := B.trans (b.mono B.size)
  clear b
  have e_a0_0 := bk_a0.at 0 rfl
  have e_a0_1 := bk_a0.at 1 rfl
  have e_x0_0 := bk_x0.at 0 rfl
  have e_x0_1 := bk_x0.at 1 rfl
  go_wp2_with fail
  clear e_a0_0 e_a0_1 e_x0_0 e_x0_1
  refine (markBoard_any wide0 ao_x0 (xs0) n0 c_x0 w4.heap.size 1 w9 HN0.out (by omega) (by omega) (by omega) x0).mono fun e w10 h => ?_
  obtain ⟨rfl, x0', hg⟩ := h
  have B := x0.belowKept B hg hs_x0
  have o0 := o0.kept hg ap_o0_x0
  have g0 := g0.kept hg ap_g0_x0
  have bk_a0 := bk_a0.kept hg ne_a0_x0.out
  have bk_x0 := bk_x0.kept hg ne_x0_x0.out
  clear x0 hg
  clear x0'
  clear bk_x0
  have e_a0_0 := bk_a0.at 0 rfl
  have e_a0_1 := bk_a0.at 1 rfl
  go_wp2_with fail
  clear e_a0_0 e_a0_1
  refine (eqIntS_any ao_g0 ao_o0 (wayL wide0 xs0) (wayL wide0 xs0) N N c_g0 c_o0 w10 HL.out HL.out (by omega) g0.ints o0.ints).mono fun e w11 h => ?_
  rw [eqL_self] at h
  obtain ⟨rfl, hq⟩ := h
  have B := B.trans (hq.below _)
  have o0 := o0.qt hq
  have g0 := g0.qt hq
  have bk_a0 := bk_a0.qt hq
  clear hq
  have e_a0_0 := bk_a0.at 0 rfl
  have e_a0_1 := bk_a0.at 1 rfl
  go_wp2_with fail
  clear e_a0_0 e_a0_1
  refine (markIntS_any ao_g0 (wayL wide0 xs0) N c_g0 w6.heap.size 1 w11 HL.out (by omega) (by omega) (by omega) g0).mono fun e w12 h => ?_
  obtain ⟨rfl, g0', hg⟩ := h
  have B := g0.belowKept B hg hs_g0
  have o0 := o0.kept hg ap_o0_g0
  have bk_a0 := bk_a0.kept hg ne_a0_g0.out
  clear g0 hg
  have e_a0_0 := bk_a0.at 0 rfl
  have e_a0_1 := bk_a0.at 1 rfl
  go_wp2_with fail
  clear e_a0_0 e_a0_1
  refine (heldIntS_any ao_g0 N c_g0 1 w12 (by omega) (by omega) (by omega) g0'.ints).mono fun e w13 h => ?_
  obtain ⟨rfl, rfl⟩ := h
  have e_a0_0 := bk_a0.at 0 rfl
  have e_a0_1 := bk_a0.at 1 rfl
  go_wp2_with fail
  clear e_a0_0 e_a0_1
  refine (toBoard_any wide0 ao0 xs0 n0 c0 w12 HN0.out (by omega) (hx0.below B (Nat.le_refl _))).mono fun e w14 h => ?_
  obtain ⟨ao_t0, c_t0, rfl, hc_t0, t0, b⟩ := h.to HN0.out
  clear h
  have hs_t0 := B.size
  have o0 := o0.below b (Nat.le_refl _)
  have g0' := g0'.below b (Nat.le_refl _)
  have bk_a0 := bk_a0.below b (Nat.le_refl _)
  have B := B.trans (b.mono B.size)
  clear b
  have e_a0_0 := bk_a0.at 0 rfl
  have e_a0_1 := bk_a0.at 1 rfl
  go_wp2_with fail
  clear e_a0_0 e_a0_1
  refine (implBoardWay_any wide0 ao_t0 xs0 n0 c_t0 w14 HN0.out (by omega) t0.ints).mono fun e w15 h => ?_
  obtain ⟨ao_h0, c_h0, rfl, h0, b⟩ := h.to HL.out
  clear h
  have hs_h0 := B.size
  have o0 := o0.below b (Nat.le_refl _)
  have g0' := g0'.below b (Nat.le_refl _)
  have t0 := t0.below b (Nat.le_refl _)
  have bk_a0 := bk_a0.below b (Nat.le_refl _)
  have B := B.trans (b.mono B.size)
  clear b
  clear t0
  have e_a0_0 := bk_a0.at 0 rfl
  have e_a0_1 := bk_a0.at 1 rfl
  go_wp2_with fail
  clear e_a0_0 e_a0_1
  refine (eqIntS_any ao_h0 ao_o0 (wayL wide0 xs0) (wayL wide0 xs0) N N c_h0 c_o0 w15 HL.out HL.out (by omega) h0.ints o0.ints).mono fun e w16 h => ?_
  rw [eqL_self] at h
  obtain ⟨rfl, hq⟩ := h
  have B := B.trans (hq.below _)
  have o0 := o0.qt hq
  have g0' := g0'.qt hq
  have h0 := h0.qt hq
  have bk_a0 := bk_a0.qt hq
  clear hq
  clear h0
  clear o0
  have e_a0_0 := bk_a0.at 0 rfl
  have e_a0_1 := bk_a0.at 1 rfl
  go_wp2_with fail
  clear e_a0_0 e_a0_1
  refine (heldIntS_any ao_g0 N c_g0 1 w16 (by omega) (by omega) (by omega) g0'.ints).mono fun e w17 h => ?_
  obtain ⟨rfl, rfl⟩ := h
  go_wp2_with fail
  go_ret
  exact ⟨rfl, B⟩

end Go.Proofs.Ytebkmloaioegeaa

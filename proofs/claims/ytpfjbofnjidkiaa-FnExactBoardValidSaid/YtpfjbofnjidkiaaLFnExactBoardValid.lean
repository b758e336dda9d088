/- The walk of the law FnExactBoardValid. -/
import Derived.Test.YtpfjbofnjidkiaaBd
import Derived.Test.YtpfjbofnjidkiaaBv
import Derived.Deep.RegionHeld3
namespace Go.Proofs.Ytpfjbofnjidkiaa
open Go Go.RowKit

set_option maxRecDepth 100000 in
set_option maxHeartbeats 2000000 in
theorem fnExactBoardValid_walk (w : World) (wide : Int) (_hw : -9223372036854775808 ≤ wide ∧ wide ≤ 9223372036854775807) (ao : Option Addr) (xs : List Int) (n c : Nat) (hn : xs.length = n) (_hnc : n ≤ c) (hc : c ≤ 9223372036854775807) (hx : IntsAt w ao xs) (_h6 : I64 xs) :
    Calls Try.prog 6 #[.agg #[.int .i64 wide, .slice ao n c]] w fun e w' => e = .returned (.bool true) ∧ Below w.heap.size w w' := by
  have HN := hid hn
  clear hn
  have B := (Below.refl w.heap.size w).alloc (Nat.le_refl _) (.cells #[.int .i64 wide, .slice ao n c] 35)
  have bk_a := Blk.new w #[.int .i64 wide, .slice ao n c] 35
  have e_a0 := bk_a.at 0 rfl
  have e_a1 := bk_a.at 1 rfl
  go_enter Try.func6, Try.ntmps6
  go_wp2_with fail
  generalize (w.alloc (.cells #[.int .i64 wide, .slice ao n c] 35)) = w0 at *
  refine (szBoard_any wide ao n c 1048576 w0 (by omega) (by omega) (by omega)).mono fun e w1 h => ?_
  obtain ⟨rfl, b⟩ := h
  have B := B.trans (b.mono B.size)
  have bk_a := bk_a.below b (Nat.le_refl _)
  clear b e_a0 e_a1
  have e_a0 := bk_a.at 0 rfl
  have e_a1 := bk_a.at 1 rfl
  by_cases hsz : szV 1048576 n < 0
  · have hd : decide (szV 1048576 n < 0) = true := decide_eq_true hsz
    go_wp2_with fail
    go_ret
    exact ⟨rfl, B⟩
  have hd : decide (szV 1048576 n < 0) = false := decide_eq_false hsz
  have hcap : n ≤ 17592186044416 := by have := szV_le hsz; omega
  go_wp2_with fail
  clear hd
  refine (toBoard_any wide ao xs n c w1 HN.out hcap (hx.below B (Nat.le_refl _))).mono fun e w2 h => ?_
  obtain ⟨ao2, c2, rfl, hc2, o2, b⟩ := h.to HN.out
  clear h e_a0 e_a1
  have B := B.trans (b.mono B.size)
  have bk_a := bk_a.below b (Nat.le_refl _)
  clear b
  go_wp2_with fail
  refine (specBoardValid_any wide ao2 xs n c2 w2 HN.out hcap hc2 o2.ints).mono fun e w3 h => ?_
  obtain ⟨rfl, b⟩ := h
  have B := B.trans (b.mono B.size)
  have bk_a := bk_a.below b (Nat.le_refl _)
  clear b o2
  have e_a0 := bk_a.at 0 rfl
  have e_a1 := bk_a.at 1 rfl
  go_wp2_with fail
  refine (toBoard_any wide ao xs n c w3 HN.out hcap (hx.below B (Nat.le_refl _))).mono fun e w4 h => ?_
  obtain ⟨ao4, c4, rfl, hc4, o4, b⟩ := h.to HN.out
  clear h e_a0 e_a1
  have B := B.trans (b.mono B.size)
  have bk_a := bk_a.below b (Nat.le_refl _)
  clear b
  have bk_x := Blk.new w4 #[.int .i64 wide, .slice ao4 n c4] 30
  have o4 := o4.alloc (.cells #[.int .i64 wide, .slice ao4 n c4] 30)
  have bk_a := bk_a.alloc (.cells #[.int .i64 wide, .slice ao4 n c4] 30)
  have B := B.alloc B.size (.cells #[.int .i64 wide, .slice ao4 n c4] 30)
  go_wp2_with fail
  generalize (w4.alloc (.cells #[.int .i64 wide, .slice ao4 n c4] 30)) = w5 at *
  refine (implBoardValid_any wide ao4 xs n c4 w5 HN.out hcap o4.ints).mono fun e w6 h => ?_
  obtain ⟨rfl, b⟩ := h
  have B := B.trans (b.mono B.size)
  have bk_a := bk_a.below b (Nat.le_refl _)
  have bk_x := bk_x.below b (Nat.le_refl _)
  have o4 := o4.below b (Nat.le_refl _)
  clear b
  have hbb : (boardB wide xs != boardB wide xs) = false := by simp
  have hself := eqBd_self wide xs
  have e_a0 := bk_a.at 0 rfl
  have e_a1 := bk_a.at 1 rfl
  have e_x0 := bk_x.at 0 rfl
  have e_x1 := bk_x.at 1 rfl
  have hS : Hid (Below w.heap.size w w6 ∧ w6.cell? ⟨w.heap.size, 0, none⟩ = some (.int .i64 wide) ∧ w6.cell? ⟨w.heap.size, 1, none⟩ = some (.slice ao n c) ∧ w6.cell? ⟨w4.heap.size, 0, none⟩ = some (.int .i64 wide) ∧ w6.cell? ⟨w4.heap.size, 1, none⟩ = some (.slice ao4 n c4) ∧ IntsAt w6 ao xs ∧ IntsAt w6 ao4 xs) :=
    ⟨B, e_a0, e_a1, e_x0, e_x1, hx.below B (Nat.le_refl _), o4.ints⟩
  clear e_a0 e_a1 e_x0 e_x1 B bk_a bk_x o4
  go_wp2
  go_region_held3 (fun w' => Below w.heap.size w w' ∧ w'.cell? ⟨w.heap.size, 0, none⟩ = some (.int .i64 wide) ∧ w'.cell? ⟨w.heap.size, 1, none⟩ = some (.slice ao n c) ∧ w'.cell? ⟨w4.heap.size, 0, none⟩ = some (.int .i64 wide) ∧ w'.cell? ⟨w4.heap.size, 1, none⟩ = some (.slice ao4 n c4) ∧ IntsAt w' ao xs ∧ IntsAt w' ao4 xs)
    (first | exact keep22d hS.out | exact keep22 ‹_› ‹_›)
    (first | (go_at_call 24; refine (toBoard_any wide ao xs n c _ HN.out hcap (held22x ‹_›)).mono fun e w2 h => ?_; obtain ⟨ao7, c7, rfl, hc7, o7, b7⟩ := h.to HN.out; clear h) | (go_at_call 19; refine (eqBoard_any wide wide _ _ xs xs n n _ _ _ HN.out HN.out (by omega) (held22y ‹_›) o7.ints).mono fun e w8 h => ?_; rw [hself] at h; obtain ⟨rfl, b8⟩ := h))
  rename_i hH
  have B := hH.1
  clear hH
  go_wp2
  go_ret
  exact ⟨rfl, B⟩
end Go.Proofs.Ytpfjbofnjidkiaa

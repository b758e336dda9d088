/- The walk of the law FnReadBoard. -/
import Derived.Test.YtaepoddlhghdpaaSu
import Derived.Test.YtaepoddlhghdpaaSd
import Derived.Test.YtaepoddlhghdpaaSb
import Derived.Test.YtaepoddlhghdpaaAl
import Derived.Test.YtaepoddlhghdpaaDw
namespace Go.Proofs.Ytaepoddlhghdpaa
open Go Go.RowKit

set_option maxRecDepth 100000 in
set_option maxHeartbeats 1000000 in
theorem fnReadBoard_walk (w : World) (ao : Option Addr) (bs : List Int) (l c : Nat) (hn : bs.length = l) (hlc : l ≤ c) (hcm : c ≤ 9223372036854775807) (hx : BytesAt w ao bs) (h8 : B8 bs) :
    Calls Try.prog 6 #[.slice ao l c] w fun e w' => e = .returned (.bool true) ∧ Below w.heap.size w w' := by
  by_cases hbig : 1048576 < l
  · have hd : decide ((1048576 : Int) < l) = true := decide_eq_true (by omega)
    clear hx hn h8
    go_enter Try.func6, Try.ntmps6
    go_wp2
    go_ret
    exact ⟨rfl, Below.refl _ _⟩
  have hd : decide ((1048576 : Int) < l) = false := decide_eq_false (by omega)
  go_enter Try.func6, Try.ntmps6
  go_wp2_with fail
  refine (drawReadBoard_any ao bs l c w hn hlc hcm hx h8).mono fun e w1 h => ?_
  obtain ⟨s, rfl, hs, B⟩ := h
  clear hx h8 hn hd hbig
  obtain ⟨X, hX⟩ : ∃ X, rbL s = X := ⟨_, rfl⟩
  obtain ⟨wx, hwx⟩ : ∃ wx, rbW s = wx := ⟨_, rfl⟩
  obtain ⟨ok, hok⟩ : ∃ ok, rdB s = ok := ⟨_, rfl⟩
  obtain ⟨N, hN⟩ : ∃ N, X.length = N := ⟨_, rfl⟩
  have hNl : N ≤ 100 := by rw [← hN, ← hX]; exact Nat.le_trans (length_rbL s) hs
  have HX := hid hX
  have HWX := hid hwx
  have HOK := hid hok
  have HN := hid hN
  clear hX hwx hok hN
  go_wp2_with fail
  refine (implReadBoard_any s w1 (by omega)).mono fun e w2 h => ?_
  rw [HX.out, HWX.out, HOK.out] at h
  obtain ⟨ax, cx, rfl, hcx, ox, b⟩ := h.to HN.out
  clear h
  have B := B.trans (b.mono B.size)
  clear b
  have bx := Blk.new w2 #[.int .i64 wx, .slice ax N cx] 27
  have ox := ox.alloc (.cells #[.int .i64 wx, .slice ax N cx] 27)
  have B := B.alloc B.size (.cells #[.int .i64 wx, .slice ax N cx] 27)
  go_wp2_with fail
  generalize (w2.alloc (.cells #[.int .i64 wx, .slice ax N cx] 27)) = W2 at *
  generalize w2.heap.size = gx at *
  refine (specReadBoard_any s W2 (by omega)).mono fun e w3 h => ?_
  rw [HX.out, HWX.out, HOK.out] at h
  obtain ⟨ay, cy, rfl, hcy, oy, b⟩ := h.to HN.out
  clear h
  have ox := ox.below b (Nat.le_refl _)
  have bx := bx.below b (Nat.le_refl _)
  have B := B.trans (b.mono B.size)
  clear b
  have hgx := bx.lt
  have bY := Blk.new w3 #[.int .i64 wx, .slice ay N cy] 27
  have ox := ox.alloc (.cells #[.int .i64 wx, .slice ay N cy] 27)
  have bx := bx.alloc (.cells #[.int .i64 wx, .slice ay N cy] 27)
  have oy := oy.alloc (.cells #[.int .i64 wx, .slice ay N cy] 27)
  have B := B.alloc B.size (.cells #[.int .i64 wx, .slice ay N cy] 27)
  have d0 := bx.at 0 rfl
  have d1 := bx.at 1 rfl
  go_wp2_with fail
  generalize (w3.alloc (.cells #[.int .i64 wx, .slice ay N cy] 27)) = W3 at *
  refine (sameBoard_self wx ax ay X N cx cy W3 HN.out (by omega) ox.ints oy.ints).mono fun e w4 h => ?_
  obtain ⟨rfl, b⟩ := h
  clear d0 d1
  have ox := ox.below b (Nat.le_refl _)
  have bx := bx.below b (Nat.le_refl _)
  have B := B.trans (b.mono B.size)
  clear b oy bY
  have hokk : (ok != ok) = false := by simp
  have d0 := bx.at 0 rfl
  have d1 := bx.at 1 rfl
  cases ok with
  | false =>
    obtain rfl : wx = 0 := by rw [← HWX.out]; exact rbW_out HOK.out
    obtain rfl : X = [] := by rw [← HX.out]; exact rbL_out HOK.out
    obtain rfl : N = 0 := by rw [← HN.out]; rfl
    go_wp2_with fail
    refine (alive_any w4).mono fun e w5 h => ?_
    obtain ⟨rfl, b⟩ := h
    have B := B.trans (b.mono B.size)
    clear b
    go_wp2
    go_ret
    exact ⟨rfl, B⟩
  | true =>
    have hso := slash_out HOK.out
    have hsz1 : (s ++ ⟨#[47]⟩).size ≤ 101 := by rw [ByteArray.size_append]; have : ByteArray.size ⟨#[47]⟩ = 1 := rfl; omega
    have h47 : ByteArray.size ⟨#[47]⟩ = 1 := rfl
    have hc1 : ¬ (9223372036854775807 < s.size + 1) := by omega
    have hc2 : ¬ (9223372036854775807 < s.size + ByteArray.size ⟨#[47]⟩) := by omega
    have HW0 := hid (rbW_out hso)
    have HL0 := hid (rbL_out hso)
    have HS := hid hso
    have ht := rdB_to HOK.out
    have HT : Hid (boardT wx X = s) := by
      unfold Hid
      have := ht.txt
      rw [← rbW_in HOK.out, ← rbL_in HOK.out, HWX.out, HX.out] at this
      exact this
    clear hso ht h47
    go_wp2_with fail
    generalize s ++ (⟨#[47]⟩ : ByteArray) = s2 at *
    refine (implReadBoard_any s2 w4 (by omega)).mono fun e w5 h => ?_
    rw [HL0.out, HW0.out, HS.out] at h
    obtain ⟨az, cz, rfl, hcz, oz, b⟩ := h.to (n := 0) rfl
    clear h d0 d1
    have ox := ox.below b (Nat.le_refl _)
    have bx := bx.below b (Nat.le_refl _)
    have B := B.trans (b.mono B.size)
    clear b
    have hgx := bx.lt
    have bz := Blk.new w5 #[.int .i64 0, .slice az (0 : Nat) cz] 27
    have ox := ox.alloc (.cells #[.int .i64 0, .slice az (0 : Nat) cz] 27)
    have bx := bx.alloc (.cells #[.int .i64 0, .slice az (0 : Nat) cz] 27)
    have B := B.alloc B.size (.cells #[.int .i64 0, .slice az (0 : Nat) cz] 27)
    have d0 := bx.at 0 rfl
    have d1 := bx.at 1 rfl
    have hss : (s.toList == s.toList) = true := by simp
    go_wp2_with fail
    generalize (w5.alloc (.cells #[.int .i64 0, .slice az (0 : Nat) cz] 27)) = W5 at *
    refine (implBoardText_any wx ax X N cx W5 HN.out (by omega) ox.ints).mono fun e w6 h => ?_
    rw [HT.out] at h
    obtain ⟨rfl, b⟩ := h
    have B := B.trans (b.mono B.size)
    clear b
    go_wp2_with fail
    go_ret
    exact ⟨rfl, B⟩

end Go.Proofs.Ytaepoddlhghdpaa

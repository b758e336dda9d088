/- The walk of the law FnBoardText. -/
import Derived.Test.YtaepoddlhghdpaaSu
import Derived.Test.YtaepoddlhghdpaaSo
import Derived.Test.YtaepoddlhghdpaaSb
import Derived.Test.YtaepoddlhghdpaaAl
import Derived.Test.YtaepoddlhghdpaaDd
namespace Go.Proofs.Ytaepoddlhghdpaa
open Go Go.RowKit

theorem txtT_pos {wide : Int} {xs : List Int} {k : Nat} (h : 0 < k) : 0 < (txtT wide xs k).size := by
  obtain ⟨j, rfl⟩ : ∃ j, k = j + 1 := ⟨k - 1, by omega⟩
  cases hs : sepB wide j with
  | true => rw [txtT_sep hs, ByteArray.size_append, size_digT]; omega
  | false => rw [txtT_not hs, ByteArray.size_append, size_digT]; omega

theorem toList_ne {s : ByteArray} (h : 0 < s.size) : s.toList.isEmpty = false := by
  rw [ByteArray.toList_eq]
  cases h2 : s.data.toList with
  | nil => exact absurd (by have : s.data.toList.length = 0 := by rw [h2]; rfl
                            rw [Array.length_toList] at this; exact this) (show s.data.size ≠ 0 from by have : s.data.size = s.size := rfl; omega)
  | cons a l => rfl

set_option maxRecDepth 100000 in
set_option maxHeartbeats 1000000 in
theorem fnBoardText_walk (w : World) (ao : Option Addr) (bs : List Int) (l c : Nat) (hn : bs.length = l) (hlc : l ≤ c) (hcm : c ≤ 9223372036854775807) (hx : BytesAt w ao bs) (h8 : B8 bs) :
    Calls Try.prog 5 #[.slice ao l c] w fun e w' => e = .returned (.bool true) ∧ Below w.heap.size w w' := by
  by_cases hbig : 1048576 < l
  · have hd : decide ((1048576 : Int) < l) = true := decide_eq_true (by omega)
    clear hx hn h8
    go_enter Try.func5, Try.ntmps5
    go_wp2
    go_ret
    exact ⟨rfl, Below.refl _ _⟩
  have hd : decide ((1048576 : Int) < l) = false := decide_eq_false (by omega)
  go_enter Try.func5, Try.ntmps5
  go_wp2_with fail
  refine (drawBoardText_any ao bs l c w hn hlc hcm hx h8).mono fun e w1 h => ?_
  obtain ⟨wide, ao1, m, c1, ys, rfl, hl, hmc, hm9, hwd, o, B⟩ := h
  clear hx h8 hn hd hbig
  have HL := hid hl
  clear hl
  have bk := Blk.new w1 #[.int .i64 wide, .slice ao1 m c1] 27
  have o := o.alloc (.cells #[.int .i64 wide, .slice ao1 m c1] 27)
  have B := B.alloc B.size (.cells #[.int .i64 wide, .slice ao1 m c1] 27)
  go_wp2_with fail
  generalize (w1.alloc (.cells #[.int .i64 wide, .slice ao1 m c1] 27)) = W at *
  generalize w1.heap.size = gb at *
  refine (implBoardText_any wide ao1 ys m c1 W HL.out (by omega) o.ints).mono fun e w2 h => ?_
  obtain ⟨T, hT⟩ : ∃ T, boardT wide ys = T := ⟨_, rfl⟩
  rw [hT] at h
  have HT := hid hT
  clear hT
  obtain ⟨rfl, b⟩ := h
  have o := o.below b (Nat.le_refl _)
  have bk := bk.below b (Nat.le_refl _)
  have B := B.trans (b.mono B.size)
  clear b
  have e0 := bk.at 0 rfl
  have e1 := bk.at 1 rfl
  go_wp2_with fail
  clear e0 e1
  refine (specBoardText_any wide ao1 ys m c1 w2 HL.out (by omega) hmc o.ints).mono fun e w3 h => ?_
  rw [HT.out] at h
  obtain ⟨rfl, b⟩ := h
  have o := o.below b (Nat.le_refl _)
  have bk := bk.below b (Nat.le_refl _)
  have B := B.trans (b.mono B.size)
  clear b
  have htt : (T.toList != T.toList) = false := by simp
  have e0 := bk.at 0 rfl
  have e1 := bk.at 1 rfl
  cases hbo : boardB wide ys with
  | false =>
    obtain rfl : T = ⟨#[]⟩ := by rw [← HT.out, boardT_out hbo]
    clear htt
    go_wp2_with fail
    refine (implBoardValid_any wide ao1 ys m c1 w3 HL.out (by omega) o.ints).mono fun e w4 h => ?_
    rw [hbo] at h
    obtain ⟨rfl, b⟩ := h
    have B := B.trans (b.mono B.size)
    clear b e0 e1 o bk
    go_wp2_with fail
    refine (alive_any w4).mono fun e w5 h => ?_
    obtain ⟨rfl, b⟩ := h
    have B := B.trans (b.mono B.size)
    clear b
    go_wp2
    go_ret
    exact ⟨rfl, B⟩
  | true =>
    have hok := boardB_iff.1 hbo
    have ht : TxtOf wide ys T := ⟨hok, HT.out⟩
    have h2 := hok.1
    have htp : 0 < T.size := by rw [ht.bytes]; exact txtT_pos (by omega)
    have hts := ht.size
    have hte := toList_ne htp
    have hrb := rdB_of ht
    have HW : Hid (rbW T = wide) := by unfold Hid; rw [rbW_in hrb]; exact ht.wide
    have HS : Hid (rbL T = ys) := by unfold Hid; rw [rbL_in hrb]; exact ht.tiles
    have HB := hid hrb
    clear ht hok hbo htp hrb
    go_wp2_with fail
    clear e0 e1
    refine (implReadBoard_any T w3 (by omega)).mono fun e w4 h => ?_
    rw [HW.out, HS.out, HB.out] at h
    obtain ⟨az, cz, rfl, hcz, oz, b⟩ := h.to HL.out
    clear h
    have o := o.below b (Nat.le_refl _)
    have bk := bk.below b (Nat.le_refl _)
    have B := B.trans (b.mono B.size)
    clear b
    have hgb := bk.lt
    have bz := Blk.new w4 #[.int .i64 wide, .slice az m cz] 27
    have o := o.alloc (.cells #[.int .i64 wide, .slice az m cz] 27)
    have bk := bk.alloc (.cells #[.int .i64 wide, .slice az m cz] 27)
    have oz := oz.alloc (.cells #[.int .i64 wide, .slice az m cz] 27)
    have B := B.alloc B.size (.cells #[.int .i64 wide, .slice az m cz] 27)
    have e0 := bk.at 0 rfl
    have e1 := bk.at 1 rfl
    go_wp2_with fail
    generalize (w4.alloc (.cells #[.int .i64 wide, .slice az m cz] 27)) = W5 at *
    refine (sameBoard_self wide az ao1 ys m cz c1 W5 HL.out (by omega) oz.ints o.ints).mono fun e w6 h => ?_
    obtain ⟨rfl, b⟩ := h
    have B := B.trans (b.mono B.size)
    clear b
    go_wp2
    go_ret
    exact ⟨rfl, B⟩

end Go.Proofs.Ytaepoddlhghdpaa

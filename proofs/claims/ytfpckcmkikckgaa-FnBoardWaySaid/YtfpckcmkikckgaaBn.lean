/- The walks of BoardDone, the program's and the reference's. -/
import Derived.Test.YtfpckcmkikckgaaBd
import Derived.Test.YtfpckcmkikckgaaBv
namespace Go.Proofs.Ytfpckcmkikckgaa
open Go Go.RowKit

/-- Sides of a board of lo to most places. -/
def SidesOk (most wide tall : Int) : Prop := (1 ≤ wide ∧ wide ≤ most) ∧ (1 ≤ tall ∧ tall ≤ most) ∧ 2 ≤ wide * tall ∧ wide * tall ≤ most
instance (most wide tall : Int) : Decidable (SidesOk most wide tall) := by unfold SidesOk; infer_instance
def sidesB (most wide tall : Int) : Bool := decide (SidesOk most wide tall)
theorem sidesB_iff {most wide tall : Int} : sidesB most wide tall = true ↔ SidesOk most wide tall := by simp [sidesB]
theorem sidesB_not {most wide tall : Int} : sidesB most wide tall = false ↔ ¬ SidesOk most wide tall := by simp [sidesB]

/-- The board in order, of n places. -/
def ordL (n : Nat) : List Int := iota 1 (n - 1) ++ [0]
theorem length_ordL {n : Nat} (h : 1 ≤ n) : (ordL n).length = n := by simp [ordL, length_iota]; omega
def doneW (wide tall : Int) : Int := if SidesOk 9 wide tall then wide else 0
def doneL (wide tall : Int) : List Int := if SidesOk 9 wide tall then ordL (wide * tall).toNat else []
theorem doneW_in {wide tall : Int} (h : SidesOk 9 wide tall) : doneW wide tall = wide := if_pos h
theorem doneW_out {wide tall : Int} (h : ¬ SidesOk 9 wide tall) : doneW wide tall = 0 := if_neg h
theorem doneL_in {wide tall : Int} {n : Nat} (h : SidesOk 9 wide tall) (hn : wide * tall = n) : doneL wide tall = ordL n := by
  unfold doneL; rw [if_pos h, hn]; rfl
theorem doneL_out {wide tall : Int} (h : ¬ SidesOk 9 wide tall) : doneL wide tall = [] := if_neg h

theorem length_doneL (wide tall : Int) : (doneL wide tall).length ≤ 17592186044416 - 1048576 := by
  by_cases h : SidesOk 9 wide tall
  · obtain ⟨N, hN⟩ : ∃ N : Nat, wide * tall = N := Int.eq_ofNat_of_zero_le (by have := h.2.2.1; omega)
    have h2 := h.2.2
    rw [doneL_in h hN, length_ordL (by omega)]; omega
  · rw [doneL_out h]; simp

theorem mul_bounds {wide tall m : Int} (hw : 1 ≤ wide ∧ wide ≤ m) (ht : 1 ≤ tall ∧ tall ≤ m) : 1 ≤ wide * tall ∧ wide * tall ≤ m * m := by
  constructor
  · have := Int.mul_le_mul hw.1 ht.1 (by omega) (by omega); omega
  · exact Int.mul_le_mul hw.2 ht.2 (by omega) (by omega)

set_option maxRecDepth 100000 in
theorem sidesOk_any (wide tall most : Int) (w : World) (hm0 : 2 ≤ most) (hm1 : most ≤ 100) :
    Calls Try.prog 47 #[.int .i64 wide, .int .i64 tall, .int .i64 most] w fun e w' => e = .returned (.bool (sidesB most wide tall)) ∧ w = w' := by
  by_cases h1 : wide < 1
  · have hd : decide (wide < 1) = true := decide_eq_true h1
    have hfin : Hid (sidesB most wide tall = false) := sidesB_not.2 fun h => by have := h.1.1; omega
    go_enter Try.func47, Try.ntmps47
    go_wp2
    go_ret
    exact ⟨by rw [hfin.out]; rfl, rfl⟩
  have hd1 : decide (wide < 1) = false := decide_eq_false h1
  by_cases h2 : most < wide
  · have hd : decide (most < wide) = true := decide_eq_true h2
    have hfin : Hid (sidesB most wide tall = false) := sidesB_not.2 fun h => by have := h.1.2; omega
    go_enter Try.func47, Try.ntmps47
    go_wp2
    go_ret
    exact ⟨by rw [hfin.out]; rfl, rfl⟩
  have hd2 : decide (most < wide) = false := decide_eq_false h2
  by_cases h3 : tall < 1
  · have hd : decide (tall < 1) = true := decide_eq_true h3
    have hfin : Hid (sidesB most wide tall = false) := sidesB_not.2 fun h => by have := h.2.1.1; omega
    go_enter Try.func47, Try.ntmps47
    go_wp2
    go_ret
    exact ⟨by rw [hfin.out]; rfl, rfl⟩
  have hd3 : decide (tall < 1) = false := decide_eq_false h3
  by_cases h4 : most < tall
  · have hd : decide (most < tall) = true := decide_eq_true h4
    have hfin : Hid (sidesB most wide tall = false) := sidesB_not.2 fun h => by have := h.2.1.2; omega
    go_enter Try.func47, Try.ntmps47
    go_wp2
    go_ret
    exact ⟨by rw [hfin.out]; rfl, rfl⟩
  have hd4 : decide (most < tall) = false := decide_eq_false h4
  have hb := mul_bounds (wide := wide) (tall := tall) (m := most) ⟨by omega, by omega⟩ ⟨by omega, by omega⟩
  have hmm : most * most ≤ 100 * 100 := Int.mul_le_mul hm1 hm1 (by omega) (by omega)
  have hs : Hid (SidesOk most wide tall ↔ 2 ≤ wide * tall ∧ wide * tall ≤ most) :=
    ⟨fun h => h.2.2, fun h => ⟨⟨by omega, by omega⟩, ⟨by omega, by omega⟩, h⟩⟩
  obtain ⟨hb1, hb2⟩ := hb
  obtain ⟨p, hp⟩ : ∃ p, wide * tall = p := ⟨_, rfl⟩
  rw [hp] at hs hb1 hb2
  by_cases h5 : 2 ≤ p
  · have hd5 : decide (2 ≤ p) = true := decide_eq_true h5
    by_cases h6 : p ≤ most
    · have hd6 : decide (p ≤ most) = true := decide_eq_true h6
      have hfin : Hid (sidesB most wide tall = true) := sidesB_iff.2 (hs.out.2 ⟨h5, h6⟩)
      go_enter Try.func47, Try.ntmps47
      go_wp2
      go_ret
      exact ⟨by rw [hfin.out]; rfl, rfl⟩
    · have hd6 : decide (p ≤ most) = false := decide_eq_false h6
      have hfin : Hid (sidesB most wide tall = false) := sidesB_not.2 fun h => h6 (hs.out.1 h).2
      go_enter Try.func47, Try.ntmps47
      go_wp2
      go_ret
      exact ⟨by rw [hfin.out]; rfl, rfl⟩
  · have hd5 : decide (2 ≤ p) = false := decide_eq_false h5
    have hfin : Hid (sidesB most wide tall = false) := sidesB_not.2 fun h => h5 (hs.out.1 h).1
    go_enter Try.func47, Try.ntmps47
    go_wp2
    go_ret
    exact ⟨by rw [hfin.out]; rfl, rfl⟩


theorem ordL_filled {n : Nat} (h : 1 ≤ n) : filled (iota 1 (n - 1)) n = ordL n := by
  unfold filled ordL
  rw [length_iota, show n - (n - 1) = 1 from by omega]; rfl

set_option maxRecDepth 100000 in
set_option maxHeartbeats 400000 in
theorem implBoardDone_any (wide tall : Int) (w : World) :
    Calls Try.prog 20 #[.int .i64 wide, .int .i64 tall] w (RetBoard w (doneW wide tall) (doneL wide tall)) := by
  by_cases hs : SidesOk 9 wide tall
  · have hsb := hid (sidesB_iff.2 hs)
    obtain ⟨N, hN⟩ : ∃ N : Nat, wide * tall = N := Int.eq_ofNat_of_zero_le (by have := hs.2.2.1; omega)
    have hW := hid (doneW_in hs)
    have hL := hid (doneL_in hs hN)
    have h2 : 2 ≤ N := by have := hs.2.2.1; rw [hN] at this; omega
    have h9 : N ≤ 9 := by have := hs.2.2.2; rw [hN] at this; omega
    clear hs
    obtain ⟨i0, hi, hz0, hz1, hz2⟩ := info_parts Try.infoInt
    have b1 := Blk.new w #[.int .i64 0, .slice none 0 0] 25
    have B := (Below.refl w.heap.size w).alloc (Nat.le_refl _) (.cells #[.int .i64 0, .slice none 0 0] 25)
    go_enter Try.func20, Try.ntmps20
    go_wp2_with fail
    generalize (w.alloc (.cells #[.int .i64 0, .slice none 0 0] 25)) = W at *
    refine (sidesOk_any wide tall 9 W (by omega) (by omega)).mono fun e w1 h => ?_
    rw [hsb.out] at h
    obtain ⟨rfl, rfl⟩ := h
    have hWs := B.size
    go_wp2_with (at_make; refine wpList_make_full _ rfl _ _ 23 rfl W.heap.size 3 i0 (.int .i64 0) 1 Try.underlying23 hi hz0 hz1 _ _ _ _ N rfl rfl ?m3 ?m4 ?m1 ?m2 (Nat.le_refl _) ?_)
    case m1 => rw [hz2]; omega
    case m2 => unfold maxLen; omega
    case m3 => rfl
    case m4 => rfl
    intro w1 hown hgrow
    have ho := Own.made hown
    have hb1 := B.grown hgrow B.size (by simp)
    have b1' := b1.kept hgrow (by simp)
    have hlt := b1.lt
    clear hown hgrow hi hz0 hz1 hz2 i0 B b1
    have hs1 : (0 : Int) ≤ N - 1 := by omega
    go_wp2
    go_loopw [6, 19] (fun _ i wr => ∃ k : Nat, k + 1 ≤ N ∧ i = .int .i64 k ∧ Own wr W.heap.size (.slice (some ⟨W.heap.size, 0, none⟩) N N) (filled (iota 1 k) N) ∧ Blk wr w.heap.size #[.int .i64 0, .slice none 0 0] 25 ∧ Below w.heap.size w wr) (fun _ i _ => N - (intOf i).toNat)
    case atStart => exact ⟨0, by omega, rfl, by rw [iota_zero, filled_nil]; exact ho, b1', hb1⟩
    case round =>
      obtain ⟨k, hk, rfl, hok, hbk, hB⟩ := hrel
      clear ho b1' hb1
      have hil : Hid ((iota 1 k).length = k) := length_iota _ _
      have hlen : Hid ((filled (iota 1 k) N).length = N) := length_filled (by rw [hil.out]; omega)
      by_cases hlt2 : (k : Int) < N - 1
      · have hck' := hok.cell (j := k) (by rw [hlen.out]; omega)
        have hfk := hok.free hlen.out.symm k
        have hst := hok.stored hlen.out.symm k ((k : Int) + 1)
        have hbs := hB.setCell (p := ⟨W.heap.size, k, none⟩) (Nat.le_of_lt hlt) (.int .i64 ((k : Int) + 1))
        have hbb := hbk.setOther (Nat.ne_of_lt hlt) k (.int .i64 ((k : Int) + 1))
        have hset : Hid ((filled (iota 1 k) N).set k ((k : Int) + 1) = filled (iota 1 (k + 1)) N) := by
          unfold Hid
          rw [filled_set hil.out (by omega), iota_succ, Int.add_comm]
        rw [hset.out] at hst
        generalize filled (iota 1 k) N = X at *
        clear hok hbk hB hset
        go_wp2
        go_roundw
        case rel => exact ⟨k + 1, by omega, by go_num, hst, hbb, hbs⟩
        case measure => simp [intOf]; omega
      · obtain rfl : k = N - 1 := by omega
        have hfin : Hid (filled (iota 1 (N - 1)) N = doneL wide tall) := by unfold Hid; rw [hL.out]; exact ordL_filled (by omega)
        have hdl : Hid ((doneL wide tall).length = N) := by unfold Hid; rw [hL.out]; exact length_ordL (by omega)
        rw [hfin.out] at hok
        have e0 := hbk.cell 0
        have e1 := hbk.cell 1
        have g0 := hbk.free 0
        have g1 := hbk.free 1
        have o2 := ((hok.setOther w.heap.size 0 (.int .i64 wide) (hok.ne_of_lt hlt)).setOther w.heap.size 1 (.slice (some ⟨W.heap.size, 0, none⟩) N N) (hok.ne_of_lt hlt)).lower (B' := w.heap.size) (Nat.le_of_lt hlt)
        have B2 := (hB.setCell (p := ⟨w.heap.size, 0, none⟩) (Nat.le_refl _) (.int .i64 wide)).setCell (p := ⟨w.heap.size, 1, none⟩) (Nat.le_refl _) (.slice (some ⟨W.heap.size, 0, none⟩) N N)
        clear hok hbk hB
        go_wp2
        refine bodyPost_ret (v := .agg #[.int .i64 wide, .slice (some ⟨W.heap.size, 0, none⟩) N N]) (by simp [results, Try.results20, go_sem, e0, e1]) rfl ?_
        have := RetBoard.mk (wide := wide) hdl.out (Nat.le_refl _) o2 B2
        rw [hW.out]
        exact this
  · have hsb := hid (sidesB_not.2 hs)
    have hW := hid (doneW_out hs)
    have hL := hid (doneL_out hs)
    have b1 := Blk.new w #[.int .i64 0, .slice none 0 0] 25
    have B := (Below.refl w.heap.size w).alloc (Nat.le_refl _) (.cells #[.int .i64 0, .slice none 0 0] 25)
    clear hs
    go_enter Try.func20, Try.ntmps20
    go_wp2_with fail
    generalize (w.alloc (.cells #[.int .i64 0, .slice none 0 0] 25)) = W at *
    refine (sidesOk_any wide tall 9 W (by omega) (by omega)).mono fun e w1 h => ?_
    rw [hsb.out] at h
    obtain ⟨rfl, rfl⟩ := h
    have e0 := b1.cell 0
    have e1 := b1.cell 1
    have g0 := b1.free 0
    have g1 := b1.free 1
    have B2 := (B.setCell (p := ⟨w.heap.size, 0, none⟩) (Nat.le_refl _) (.int .i64 0)).setCell (p := ⟨w.heap.size, 1, none⟩) (Nat.le_refl _) (.slice none 0 0)
    clear b1 B
    go_wp2
    refine bodyPost_ret (v := .agg #[.int .i64 0, .slice none 0 0]) (by simp [results, Try.results20, go_sem, e0, e1]) rfl ?_
    have := RetBoard.mk (w := w) (wide := 0) (xs := []) rfl (Nat.le_refl _) (Own.nil _ _) B2
    rw [hW.out, hL.out]
    exact this

set_option maxRecDepth 100000 in
set_option maxHeartbeats 400000 in
theorem specBoardDone_out (wide tall : Int) (w : World) (hs : ¬ SidesOk 9 wide tall) :
    Calls Try.prog 51 #[.int .i64 wide, .int .i64 tall] w (RetBoard w (doneW wide tall) (doneL wide tall)) := by
  have hW := hid (doneW_out hs)
  have hL := hid (doneL_out hs)
  have b1 := Blk.new w #[.int .i64 0, .slice none 0 0] 25
  have B := (Below.refl w.heap.size w).alloc (Nat.le_refl _) (.cells #[.int .i64 0, .slice none 0 0] 25)
  have fin : ∀ (W : World), Blk W w.heap.size #[.int .i64 0, .slice none 0 0] 25 → Below w.heap.size w W → RetBoard w (doneW wide tall) (doneL wide tall) (.returned (.agg #[.int .i64 0, .slice none 0 0])) ((W.setCell ⟨w.heap.size, 0, none⟩ (.int .i64 0)).setCell ⟨w.heap.size, 1, none⟩ (.slice none 0 0)) := fun W b1 B => by
    have B2 := (B.setCell (p := ⟨w.heap.size, 0, none⟩) (Nat.le_refl _) (.int .i64 0)).setCell (p := ⟨w.heap.size, 1, none⟩) (Nat.le_refl _) (.slice none 0 0)
    rw [hW.out, hL.out]
    exact RetBoard.mk (w := w) (wide := 0) (xs := []) rfl (Nat.le_refl _) (Own.nil _ _) B2
  by_cases h1 : 1 ≤ wide ∧ wide ≤ 9
  · have hi1 := inR_true h1
    by_cases h2 : 1 ≤ tall ∧ tall ≤ 9
    · have hi2 := inR_true h2
      have hb := mul_bounds h1 h2
      obtain ⟨hb1, hb2⟩ := hb
      have hi3 : inR 2 9 (wide * tall) = false := inR_false fun h => hs ⟨h1, h2, h.1, h.2⟩
      have hp2 : -9223372036854775808 ≤ wide * tall := by omega
      clear hs h1 h2
      go_enter Try.func51, Try.ntmps51
      go_wp2_with fail
      generalize (w.alloc (.cells #[.int .i64 0, .slice none 0 0] 25)) = W at *
      refine (l1In_any _ _ _ _).mono fun e w1 h => ?_
      rw [hi1] at h
      obtain ⟨rfl, rfl⟩ := h
      go_wp2_with fail
      refine (l1In_any _ _ _ _).mono fun e w1 h => ?_
      rw [hi2] at h
      obtain ⟨rfl, rfl⟩ := h
      go_wp2_with fail
      refine (l1In_any _ _ _ _).mono fun e w1 h => ?_
      rw [hi3] at h
      obtain ⟨rfl, rfl⟩ := h
      have e0 := b1.cell 0
      have e1 := b1.cell 1
      have g0 := b1.free 0
      have g1 := b1.free 1
      have hfin := fin W b1 B
      clear b1 B fin
      go_wp2
      exact bodyPost_ret (v := .agg #[.int .i64 0, .slice none 0 0]) (by simp [results, Try.results51, go_sem, e0, e1]) rfl hfin
    · have hi2 := inR_false h2
      clear hs h1 h2
      go_enter Try.func51, Try.ntmps51
      go_wp2_with fail
      generalize (w.alloc (.cells #[.int .i64 0, .slice none 0 0] 25)) = W at *
      refine (l1In_any _ _ _ _).mono fun e w1 h => ?_
      rw [hi1] at h
      obtain ⟨rfl, rfl⟩ := h
      go_wp2_with fail
      refine (l1In_any _ _ _ _).mono fun e w1 h => ?_
      rw [hi2] at h
      obtain ⟨rfl, rfl⟩ := h
      have e0 := b1.cell 0
      have e1 := b1.cell 1
      have g0 := b1.free 0
      have g1 := b1.free 1
      have hfin := fin W b1 B
      clear b1 B fin
      go_wp2
      exact bodyPost_ret (v := .agg #[.int .i64 0, .slice none 0 0]) (by simp [results, Try.results51, go_sem, e0, e1]) rfl hfin
  · have hi1 := inR_false h1
    clear hs h1
    go_enter Try.func51, Try.ntmps51
    go_wp2_with fail
    generalize (w.alloc (.cells #[.int .i64 0, .slice none 0 0] 25)) = W at *
    refine (l1In_any _ _ _ _).mono fun e w1 h => ?_
    rw [hi1] at h
    obtain ⟨rfl, rfl⟩ := h
    have e0 := b1.cell 0
    have e1 := b1.cell 1
    have g0 := b1.free 0
    have g1 := b1.free 1
    have hfin := fin W b1 B
    clear b1 B fin
    go_wp2
    exact bodyPost_ret (v := .agg #[.int .i64 0, .slice none 0 0]) (by simp [results, Try.results51, go_sem, e0, e1]) rfl hfin

set_option maxRecDepth 100000 in
set_option maxHeartbeats 1000000 in
theorem specBoardDone_in (wide tall : Int) (w : World) (hs : SidesOk 9 wide tall) :
    Calls Try.prog 51 #[.int .i64 wide, .int .i64 tall] w (RetBoard w (doneW wide tall) (doneL wide tall)) := by
  obtain ⟨N, hN⟩ : ∃ N : Nat, wide * tall = N := Int.eq_ofNat_of_zero_le (by have := hs.2.2.1; omega)
  have hW := hid (doneW_in hs)
  have hL := hid (doneL_in hs hN)
  have h2 : 2 ≤ N := by have := hs.2.2.1; rw [hN] at this; omega
  have h9 : N ≤ 9 := by have := hs.2.2.2; rw [hN] at this; omega
  have hi1 := inR_true hs.1
  have hi2 := inR_true hs.2.1
  have hi3 : inR 2 9 (N : Int) = true := inR_true (by omega)
  clear hs
  obtain ⟨i0, hi, hz0, hz1, hz2⟩ := info_parts Try.infoInt
  have b1 := (Blk.new w #[.int .i64 0, .slice none 0 0] 25).alloc (.cells #[.int .i64 wide, .slice none 0 0] 25)
  have b2 := Blk.new' (w.alloc (.cells #[.int .i64 0, .slice none 0 0] 25)) #[.int .i64 wide, .slice none 0 0] 25 (g := w.heap.size + 1) (by simp)
  have B := ((Below.refl w.heap.size w).alloc (Nat.le_refl _) (.cells #[.int .i64 0, .slice none 0 0] 25)).alloc (by simp) (.cells #[.int .i64 wide, .slice none 0 0] 25)
  go_enter Try.func51, Try.ntmps51
  go_wp2_with fail
  refine (l1In_any _ _ _ _).mono fun e w1 h => ?_
  rw [hi1] at h
  obtain ⟨rfl, rfl⟩ := h
  go_wp2_with fail
  refine (l1In_any _ _ _ _).mono fun e w1 h => ?_
  rw [hi2] at h
  obtain ⟨rfl, rfl⟩ := h
  go_wp2_with fail
  refine (l1In_any _ _ _ _).mono fun e w1 h => ?_
  rw [hi3] at h
  obtain ⟨rfl, rfl⟩ := h
  go_wp2
  generalize ((w.alloc (.cells #[.int .i64 0, .slice none 0 0] 25)).alloc (.cells #[.int .i64 wide, .slice none 0 0] 25)) = W at *
  have hlt := b2.lt
  clear hi1 hi2 hi3
  go_loopw [6] (fun i wr => ∃ (k : Nat) (v : Value), k < N ∧ i = .int .i64 ((k : Int) + 1) ∧ Own wr W.heap.size v (iota 1 k) ∧ Blk wr (w.heap.size + 1) #[.int .i64 wide, v] 25 ∧ Blk wr w.heap.size #[.int .i64 0, .slice none 0 0] 25 ∧ Below w.heap.size w wr ∧ W.heap.size ≤ wr.heap.size) (fun i _ => N + 1 - (intOf i).toNat)
  case atStart => exact ⟨0, .slice none 0 0, by omega, rfl, Own.nil _ _, b2, b1, B, Nat.le_refl _⟩
  case round =>
    obtain ⟨k, v, hk, rfl, hok, hb2, hb1, hB, hsz⟩ := hrel
    clear b1 b2 B
    obtain ⟨ao, c, rfl, _, _⟩ := hok.shapeN (length_iota 1 k)
    have e1 := hb2.cell 1
    by_cases hlt2 : (k : Int) + 1 < N
    · go_wp2_with (at_builtin; refine wpList_append_own _ rfl _ _ 23 rfl W.heap.size 3 i0 (.int .i64 0) 1 8 Try.underlying23 hi hz0 hz1 hz2 rfl (by decide) _ _ _ rfl (hok.alloc _) ⟨wr.heap.size, 0, none⟩ 1 1 [.int .i64 ((k : Int) + 1)] rfl rfl (cell1 _ _ _) (cell1_one _) ?c3 ?c4 ?c5 ?_)
      case c3 => rw [length_iota]; unfold maxLen; omega
      case c4 => rw [length_iota]; omega
      case c5 => first | omega | (simp; omega)
      intro v' w3 hown' hgrow _
      have ho := Own.appended hown'
      have hs' : Hid (iota 1 (k + 1) = iota 1 k ++ [(k : Int) + 1]) := by unfold Hid; rw [iota_succ, Int.add_comm]
      rw [← hs'.out] at ho
      have hne : some (w.heap.size + 1) ≠ (Value.slice ao k c).ownBlock := fun e => by have := (World.ownsRow.lt hok _ e.symm).1; omega
      have hne0 : some w.heap.size ≠ (Value.slice ao k c).ownBlock := fun e => by have := (World.ownsRow.lt hok _ e.symm).1; omega
      have hb2' := (hb2.alloc _).kept hgrow hne
      have hb1' := (hb1.alloc _).kept hgrow hne0
      have hB' := (hB.alloc hB.size _).grown hgrow (by simp; have := hB.size; omega) (fun j hj => by have := (World.ownsRow.lt hok j hj).1; have := hlt; omega)
      have hsz' : W.heap.size ≤ w3.heap.size := by have := hgrow.size; simp at this; omega
      clear hown' hgrow hok hb1 hb2 hB hne hne0 e1
      obtain ⟨ao', c', rfl, _, _⟩ := ho.shapeN (length_iota 1 (k + 1))
      have e1 := hb2'.cell 1
      have f1 := hb2'.free 1
      have ho2 := ho.setOther (w.heap.size + 1) 1 (.slice ao' (k + 1) c') (ho.ne_of_lt hlt)
      have hb3 := hb2'.set 1 (.slice ao' (k + 1) c')
      have hb0 := hb1'.setOther (g' := w.heap.size + 1) (by omega) 1 (.slice ao' (k + 1) c')
      have hB2 := hB'.setCell (p := ⟨w.heap.size + 1, 1, none⟩) (by simp) (.slice ao' (k + 1) c')
      clear ho hb2' hb1' hB'
      go_wp2
      go_roundw
      case rel => exact ⟨k + 1, _, by omega, by go_num, ho2, hb3, hb0, hB2, by simpa using hsz'⟩
      case measure => simp [intOf]; omega
    · obtain rfl : N = k + 1 := by omega
      go_wp2_with (at_builtin; refine wpList_append_own _ rfl _ _ 23 rfl W.heap.size 3 i0 (.int .i64 0) 1 8 Try.underlying23 hi hz0 hz1 hz2 rfl (by decide) _ _ _ rfl (hok.alloc _) ⟨wr.heap.size, 0, none⟩ 1 1 [.int .i64 0] rfl rfl (cell1 _ _ _) (cell1_one _) ?d3 ?d4 ?d5 ?_)
      case d3 => rw [length_iota]; unfold maxLen; omega
      case d4 => rw [length_iota]; omega
      case d5 => first | omega | (simp; omega)
      intro v' w3 hown' hgrow _
      have ho := Own.appended hown'
      have hs' : Hid (doneL wide tall = iota 1 k ++ [0]) := by unfold Hid; rw [hL.out]; rfl
      rw [← hs'.out] at ho
      have hne : some (w.heap.size + 1) ≠ (Value.slice ao k c).ownBlock := fun e => by have := (World.ownsRow.lt hok _ e.symm).1; omega
      have hne0 : some w.heap.size ≠ (Value.slice ao k c).ownBlock := fun e => by have := (World.ownsRow.lt hok _ e.symm).1; omega
      have hb2' := (hb2.alloc _).kept hgrow hne
      have hb1' := (hb1.alloc _).kept hgrow hne0
      have hB' := (hB.alloc hB.size _).grown hgrow (by simp; have := hB.size; omega) (fun j hj => by have := (World.ownsRow.lt hok j hj).1; have := hlt; omega)
      clear hown' hgrow hok hb1 hb2 hB hne hne0 e1
      have hil' : Hid ((doneL wide tall).length = k + 1) := by unfold Hid; rw [hL.out]; exact length_ordL (by omega)
      obtain ⟨ao', c', rfl, _, hcc⟩ := ho.shapeN hil'.out
      have e20 := hb2'.cell 0
      have e21 := hb2'.cell 1
      have f20 := hb2'.free 0
      have f21 := hb2'.free 1
      have e10 := hb1'.cell 0
      have e11 := hb1'.cell 1
      have f10 := hb1'.free 0
      have f11 := hb1'.free 1
      have ho2 := (((ho.setOther (w.heap.size + 1) 1 (.slice ao' (k + 1) c') (ho.ne_of_lt hlt)).setOther w.heap.size 0 (.int .i64 wide) (ho.ne_of_lt (by omega))).setOther w.heap.size 1 (.slice ao' (k + 1) c') (ho.ne_of_lt (by omega))).lower (B' := w.heap.size) (by omega)
      have hB2 := ((hB'.setCell (p := ⟨w.heap.size + 1, 1, none⟩) (by simp) (.slice ao' (k + 1) c')).setCell (p := ⟨w.heap.size, 0, none⟩) (Nat.le_refl _) (.int .i64 wide)).setCell (p := ⟨w.heap.size, 1, none⟩) (Nat.le_refl _) (.slice ao' (k + 1) c')
      clear ho hb2' hb1' hB'
      go_wp2
      refine bodyPost_ret (v := .agg #[.int .i64 wide, .slice ao' (k + 1) c']) (by simp [results, Try.results51, go_sem, e10, e11]) rfl ?_
      have := RetBoard.mk (wide := wide) hil'.out hcc ho2 hB2
      rw [hW.out]
      exact this

theorem specBoardDone_any (wide tall : Int) (w : World) :
    Calls Try.prog 51 #[.int .i64 wide, .int .i64 tall] w (RetBoard w (doneW wide tall) (doneL wide tall)) := by
  by_cases hs : SidesOk 9 wide tall
  · exact specBoardDone_in wide tall w hs
  · exact specBoardDone_out wide tall w hs

end Go.Proofs.Ytfpckcmkikckgaa

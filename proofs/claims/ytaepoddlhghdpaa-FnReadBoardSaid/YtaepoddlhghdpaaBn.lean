/- The walks of BoardDone, the program's and the reference's. -/
import Derived.Test.YtaepoddlhghdpaaBd
import Derived.Test.YtaepoddlhghdpaaBv
namespace Go.Proofs.Ytaepoddlhghdpaa
open Go Go.RowKit

/-- Sides of a board of lo to most places. -/
def SidesOk (most wide tall : Int) : Prop := (1 ≤ wide ∧ wide ≤ most) ∧ (1 ≤ tall ∧ tall ≤ most) ∧ 2 ≤ wide * tall ∧ wide * tall ≤ most
instance (most wide tall : Int) : Decidable (SidesOk most wide tall) := by unfold SidesOk; infer_instance
def sidesB (most wide tall : Int) : Bool := decide (SidesOk most wide tall)
theorem sidesB_iff {most wide tall : Int} : sidesB most wide tall = true ↔ SidesOk most wide tall := by simp [sidesB]
theorem sidesB_not {most wide tall : Int} : sidesB most wide tall = false ↔ ¬ SidesOk most wide tall := by simp [sidesB]

/-- The board in order, of n places. -/
def ordL (n : Nat) : List Int := iota 1 (n - 1) ++ [0]
theorem length_ordL {n : Nat} (h : 1 ≤ n) : (ordL n).length = n := by simp [ordL, length_iota]; omega
def doneW (wide tall : Int) : Int := if SidesOk 9 wide tall then wide else 0
def doneL (wide tall : Int) : List Int := if SidesOk 9 wide tall then ordL (wide * tall).toNat else []
theorem doneW_in {wide tall : Int} (h : SidesOk 9 wide tall) : doneW wide tall = wide := if_pos h
theorem doneW_out {wide tall : Int} (h : ¬ SidesOk 9 wide tall) : doneW wide tall = 0 := if_neg h
theorem doneL_in {wide tall : Int} {n : Nat} (h : SidesOk 9 wide tall) (hn : wide * tall = n) : doneL wide tall = ordL n := by
  unfold doneL; rw [if_pos h, hn]; rfl
theorem doneL_out {wide tall : Int} (h : ¬ SidesOk 9 wide tall) : doneL wide tall = [] := if_neg h

theorem length_doneL (wide tall : Int) : (doneL wide tall).length ≤ 17592186044416 - 1048576 := by
  by_cases h : SidesOk 9 wide tall
  · obtain ⟨N, hN⟩ : ∃ N : Nat, wide * tall = N := Int.eq_ofNat_of_zero_le (by have := h.2.2.1; omega)
    have h2 := h.2.2
    rw [doneL_in h hN, length_ordL (by omega)]; omega
  · rw [doneL_out h]; simp

theorem mul_bounds {wide tall m : Int} (hw : 1 ≤ wide ∧ wide ≤ m) (ht : 1 ≤ tall ∧ tall ≤ m) : 1 ≤ wide * tall ∧ wide * tall ≤ m * m := by
  constructor
  · have := Int.mul_le_mul hw.1 ht.1 (by omega) (by omega); omega
  · exact Int.mul_le_mul hw.2 ht.2 (by omega) (by omega)


theorem ordL_filled {n : Nat} (h : 1 ≤ n) : filled (iota 1 (n - 1)) n = ordL n := by
  unfold filled ordL
  rw [length_iota, show n - (n - 1) = 1 from by omega]; rfl

set_option maxRecDepth 100000 in
set_option maxHeartbeats 400000 in
theorem specBoardDone_out (wide tall : Int) (w : World) (hs : ¬ SidesOk 9 wide tall) :
    Calls Try.prog 42 #[.int .i64 wide, .int .i64 tall] w (RetBoard w (doneW wide tall) (doneL wide tall)) := by
  have hW := hid (doneW_out hs)
  have hL := hid (doneL_out hs)
  have b1 := Blk.new w #[.int .i64 0, .slice none 0 0] 27
  have B := (Below.refl w.heap.size w).alloc (Nat.le_refl _) (.cells #[.int .i64 0, .slice none 0 0] 27)
  have fin : ∀ (W : World), Blk W w.heap.size #[.int .i64 0, .slice none 0 0] 27 → Below w.heap.size w W → RetBoard w (doneW wide tall) (doneL wide tall) (.returned (.agg #[.int .i64 0, .slice none 0 0])) ((W.setCell ⟨w.heap.size, 0, none⟩ (.int .i64 0)).setCell ⟨w.heap.size, 1, none⟩ (.slice none 0 0)) := fun W b1 B => by
    have B2 := (B.setCell (p := ⟨w.heap.size, 0, none⟩) (Nat.le_refl _) (.int .i64 0)).setCell (p := ⟨w.heap.size, 1, none⟩) (Nat.le_refl _) (.slice none 0 0)
    rw [hW.out, hL.out]
    exact RetBoard.mk (w := w) (wide := 0) (xs := []) rfl (Nat.le_refl _) (Own.nil _ _) B2
  by_cases h1 : 1 ≤ wide ∧ wide ≤ 9
  · have hi1 := inR_true h1
    by_cases h2 : 1 ≤ tall ∧ tall ≤ 9
    · have hi2 := inR_true h2
      have hb := mul_bounds h1 h2
      obtain ⟨hb1, hb2⟩ := hb
      have hi3 : inR 2 9 (wide * tall) = false := inR_false fun h => hs ⟨h1, h2, h.1, h.2⟩
      have hp2 : -9223372036854775808 ≤ wide * tall := by omega
      clear hs h1 h2
      go_enter Try.func42, Try.ntmps42
      go_wp2_with fail
      generalize (w.alloc (.cells #[.int .i64 0, .slice none 0 0] 27)) = W at *
      refine (l1In_any _ _ _ _).mono fun e w1 h => ?_
      rw [hi1] at h
      obtain ⟨rfl, rfl⟩ := h
      go_wp2_with fail
      refine (l1In_any _ _ _ _).mono fun e w1 h => ?_
      rw [hi2] at h
      obtain ⟨rfl, rfl⟩ := h
      go_wp2_with fail
      refine (l1In_any _ _ _ _).mono fun e w1 h => ?_
      rw [hi3] at h
      obtain ⟨rfl, rfl⟩ := h
      have e0 := b1.cell 0
      have e1 := b1.cell 1
      have g0 := b1.free 0
      have g1 := b1.free 1
      have hfin := fin W b1 B
      clear b1 B fin
      go_wp2
      exact bodyPost_ret (v := .agg #[.int .i64 0, .slice none 0 0]) (by simp [results, Try.results42, go_sem, e0, e1]) rfl hfin
    · have hi2 := inR_false h2
      clear hs h1 h2
      go_enter Try.func42, Try.ntmps42
      go_wp2_with fail
      generalize (w.alloc (.cells #[.int .i64 0, .slice none 0 0] 27)) = W at *
      refine (l1In_any _ _ _ _).mono fun e w1 h => ?_
      rw [hi1] at h
      obtain ⟨rfl, rfl⟩ := h
      go_wp2_with fail
      refine (l1In_any _ _ _ _).mono fun e w1 h => ?_
      rw [hi2] at h
      obtain ⟨rfl, rfl⟩ := h
      have e0 := b1.cell 0
      have e1 := b1.cell 1
      have g0 := b1.free 0
      have g1 := b1.free 1
      have hfin := fin W b1 B
      clear b1 B fin
      go_wp2
      exact bodyPost_ret (v := .agg #[.int .i64 0, .slice none 0 0]) (by simp [results, Try.results42, go_sem, e0, e1]) rfl hfin
  · have hi1 := inR_false h1
    clear hs h1
    go_enter Try.func42, Try.ntmps42
    go_wp2_with fail
    generalize (w.alloc (.cells #[.int .i64 0, .slice none 0 0] 27)) = W at *
    refine (l1In_any _ _ _ _).mono fun e w1 h => ?_
    rw [hi1] at h
    obtain ⟨rfl, rfl⟩ := h
    have e0 := b1.cell 0
    have e1 := b1.cell 1
    have g0 := b1.free 0
    have g1 := b1.free 1
    have hfin := fin W b1 B
    clear b1 B fin
    go_wp2
    exact bodyPost_ret (v := .agg #[.int .i64 0, .slice none 0 0]) (by simp [results, Try.results42, go_sem, e0, e1]) rfl hfin

set_option maxRecDepth 100000 in
set_option maxHeartbeats 1000000 in
theorem specBoardDone_in (wide tall : Int) (w : World) (hs : SidesOk 9 wide tall) :
    Calls Try.prog 42 #[.int .i64 wide, .int .i64 tall] w (RetBoard w (doneW wide tall) (doneL wide tall)) := by
  obtain ⟨N, hN⟩ : ∃ N : Nat, wide * tall = N := Int.eq_ofNat_of_zero_le (by have := hs.2.2.1; omega)
  have hW := hid (doneW_in hs)
  have hL := hid (doneL_in hs hN)
  have h2 : 2 ≤ N := by have := hs.2.2.1; rw [hN] at this; omega
  have h9 : N ≤ 9 := by have := hs.2.2.2; rw [hN] at this; omega
  have hi1 := inR_true hs.1
  have hi2 := inR_true hs.2.1
  have hi3 : inR 2 9 (N : Int) = true := inR_true (by omega)
  clear hs
  obtain ⟨i0, hi, hz0, hz1, hz2⟩ := info_parts Try.infoInt
  have b1 := (Blk.new w #[.int .i64 0, .slice none 0 0] 27).alloc (.cells #[.int .i64 wide, .slice none 0 0] 27)
  have b2 := Blk.new' (w.alloc (.cells #[.int .i64 0, .slice none 0 0] 27)) #[.int .i64 wide, .slice none 0 0] 27 (g := w.heap.size + 1) (by simp)
  have B := ((Below.refl w.heap.size w).alloc (Nat.le_refl _) (.cells #[.int .i64 0, .slice none 0 0] 27)).alloc (by simp) (.cells #[.int .i64 wide, .slice none 0 0] 27)
  go_enter Try.func42, Try.ntmps42
  go_wp2_with fail
  refine (l1In_any _ _ _ _).mono fun e w1 h => ?_
  rw [hi1] at h
  obtain ⟨rfl, rfl⟩ := h
  go_wp2_with fail
  refine (l1In_any _ _ _ _).mono fun e w1 h => ?_
  rw [hi2] at h
  obtain ⟨rfl, rfl⟩ := h
  go_wp2_with fail
  refine (l1In_any _ _ _ _).mono fun e w1 h => ?_
  rw [hi3] at h
  obtain ⟨rfl, rfl⟩ := h
  go_wp2
  generalize ((w.alloc (.cells #[.int .i64 0, .slice none 0 0] 27)).alloc (.cells #[.int .i64 wide, .slice none 0 0] 27)) = W at *
  have hlt := b2.lt
  clear hi1 hi2 hi3
  go_loopw [6] (fun i wr => ∃ (k : Nat) (v : Value), k < N ∧ i = .int .i64 ((k : Int) + 1) ∧ Own wr W.heap.size v (iota 1 k) ∧ Blk wr (w.heap.size + 1) #[.int .i64 wide, v] 27 ∧ Blk wr w.heap.size #[.int .i64 0, .slice none 0 0] 27 ∧ Below w.heap.size w wr ∧ W.heap.size ≤ wr.heap.size) (fun i _ => N + 1 - (intOf i).toNat)
  case atStart => exact ⟨0, .slice none 0 0, by omega, rfl, Own.nil _ _, b2, b1, B, Nat.le_refl _⟩
  case round =>
    obtain ⟨k, v, hk, rfl, hok, hb2, hb1, hB, hsz⟩ := hrel
    clear b1 b2 B
    obtain ⟨ao, c, rfl, _, _⟩ := hok.shapeN (length_iota 1 k)
    have e1 := hb2.cell 1
    by_cases hlt2 : (k : Int) + 1 < N
    · go_wp2_with (at_builtin; refine wpList_append_own _ rfl _ _ 22 rfl W.heap.size 3 i0 (.int .i64 0) 1 8 Try.underlying22 hi hz0 hz1 hz2 rfl (by decide) _ _ _ rfl (hok.alloc _) ⟨wr.heap.size, 0, none⟩ 1 1 [.int .i64 ((k : Int) + 1)] rfl rfl (cell1 _ _ _) (cell1_one _) ?c3 ?c4 ?c5 ?_)
      case c3 => rw [length_iota]; unfold maxLen; omega
      case c4 => rw [length_iota]; omega
      case c5 => first | omega | (simp; omega)
      intro v' w3 hown' hgrow _
      have ho := Own.appended hown'
      have hs' : Hid (iota 1 (k + 1) = iota 1 k ++ [(k : Int) + 1]) := by unfold Hid; rw [iota_succ, Int.add_comm]
      rw [← hs'.out] at ho
      have hne : some (w.heap.size + 1) ≠ (Value.slice ao k c).ownBlock := fun e => by have := (World.ownsRow.lt hok _ e.symm).1; omega
      have hne0 : some w.heap.size ≠ (Value.slice ao k c).ownBlock := fun e => by have := (World.ownsRow.lt hok _ e.symm).1; omega
      have hb2' := (hb2.alloc _).kept hgrow hne
      have hb1' := (hb1.alloc _).kept hgrow hne0
      have hB' := (hB.alloc hB.size _).grown hgrow (by simp; have := hB.size; omega) (fun j hj => by have := (World.ownsRow.lt hok j hj).1; have := hlt; omega)
      have hsz' : W.heap.size ≤ w3.heap.size := by have := hgrow.size; simp at this; omega
      clear hown' hgrow hok hb1 hb2 hB hne hne0 e1
      obtain ⟨ao', c', rfl, _, _⟩ := ho.shapeN (length_iota 1 (k + 1))
      have e1 := hb2'.cell 1
      have f1 := hb2'.free 1
      have ho2 := ho.setOther (w.heap.size + 1) 1 (.slice ao' (k + 1) c') (ho.ne_of_lt hlt)
      have hb3 := hb2'.set 1 (.slice ao' (k + 1) c')
      have hb0 := hb1'.setOther (g' := w.heap.size + 1) (by omega) 1 (.slice ao' (k + 1) c')
      have hB2 := hB'.setCell (p := ⟨w.heap.size + 1, 1, none⟩) (by simp) (.slice ao' (k + 1) c')
      clear ho hb2' hb1' hB'
      go_wp2
      go_roundw
      case rel => exact ⟨k + 1, _, by omega, by go_num, ho2, hb3, hb0, hB2, by simpa using hsz'⟩
      case measure => simp [intOf]; omega
    · obtain rfl : N = k + 1 := by omega
      go_wp2_with (at_builtin; refine wpList_append_own _ rfl _ _ 22 rfl W.heap.size 3 i0 (.int .i64 0) 1 8 Try.underlying22 hi hz0 hz1 hz2 rfl (by decide) _ _ _ rfl (hok.alloc _) ⟨wr.heap.size, 0, none⟩ 1 1 [.int .i64 0] rfl rfl (cell1 _ _ _) (cell1_one _) ?d3 ?d4 ?d5 ?_)
      case d3 => rw [length_iota]; unfold maxLen; omega
      case d4 => rw [length_iota]; omega
      case d5 => first | omega | (simp; omega)
      intro v' w3 hown' hgrow _
      have ho := Own.appended hown'
      have hs' : Hid (doneL wide tall = iota 1 k ++ [0]) := by unfold Hid; rw [hL.out]; rfl
      rw [← hs'.out] at ho
      have hne : some (w.heap.size + 1) ≠ (Value.slice ao k c).ownBlock := fun e => by have := (World.ownsRow.lt hok _ e.symm).1; omega
      have hne0 : some w.heap.size ≠ (Value.slice ao k c).ownBlock := fun e => by have := (World.ownsRow.lt hok _ e.symm).1; omega
      have hb2' := (hb2.alloc _).kept hgrow hne
      have hb1' := (hb1.alloc _).kept hgrow hne0
      have hB' := (hB.alloc hB.size _).grown hgrow (by simp; have := hB.size; omega) (fun j hj => by have := (World.ownsRow.lt hok j hj).1; have := hlt; omega)
      clear hown' hgrow hok hb1 hb2 hB hne hne0 e1
      have hil' : Hid ((doneL wide tall).length = k + 1) := by unfold Hid; rw [hL.out]; exact length_ordL (by omega)
      obtain ⟨ao', c', rfl, _, hcc⟩ := ho.shapeN hil'.out
      have e20 := hb2'.cell 0
      have e21 := hb2'.cell 1
      have f20 := hb2'.free 0
      have f21 := hb2'.free 1
      have e10 := hb1'.cell 0
      have e11 := hb1'.cell 1
      have f10 := hb1'.free 0
      have f11 := hb1'.free 1
      have ho2 := (((ho.setOther (w.heap.size + 1) 1 (.slice ao' (k + 1) c') (ho.ne_of_lt hlt)).setOther w.heap.size 0 (.int .i64 wide) (ho.ne_of_lt (by omega))).setOther w.heap.size 1 (.slice ao' (k + 1) c') (ho.ne_of_lt (by omega))).lower (B' := w.heap.size) (by omega)
      have hB2 := ((hB'.setCell (p := ⟨w.heap.size + 1, 1, none⟩) (by simp) (.slice ao' (k + 1) c')).setCell (p := ⟨w.heap.size, 0, none⟩) (Nat.le_refl _) (.int .i64 wide)).setCell (p := ⟨w.heap.size, 1, none⟩) (Nat.le_refl _) (.slice ao' (k + 1) c')
      clear ho hb2' hb1' hB'
      go_wp2
      refine bodyPost_ret (v := .agg #[.int .i64 wide, .slice ao' (k + 1) c']) (by simp [results, Try.results42, go_sem, e10, e11]) rfl ?_
      have := RetBoard.mk (wide := wide) hil'.out hcc ho2 hB2
      rw [hW.out]
      exact this

theorem specBoardDone_any (wide tall : Int) (w : World) :
    Calls Try.prog 42 #[.int .i64 wide, .int .i64 tall] w (RetBoard w (doneW wide tall) (doneL wide tall)) := by
  by_cases hs : SidesOk 9 wide tall
  · exact specBoardDone_in wide tall w hs
  · exact specBoardDone_out wide tall w hs

end Go.Proofs.Ytaepoddlhghdpaa
